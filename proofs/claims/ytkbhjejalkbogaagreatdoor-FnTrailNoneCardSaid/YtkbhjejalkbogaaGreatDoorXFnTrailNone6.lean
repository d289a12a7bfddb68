/- The law FnTrailNone holds: it returns true, and the input reads as it did. No condition. This is part 6 of 6 of its proof. -/
import Derived.Test.YtkbhjejalkbogaaGreatDoorXFnTrailNone5
import Derived.WalkSmall
import Derived.Lib.IndexBytes
import Derived.Test.YtkbhjejalkbogaaGreatDoorRows
import Derived.WalkKit
import Derived.ProofKit
import Derived.OpenShut
import Derived.ShutString
import Derived.ChangeOld
import Derived.Below
import Derived.Carry
import Derived.SizedLaws
import Derived.LaidMore
import Derived.Lay
import Derived.MakeChecks
import Derived.Stop.Joined
import Derived.HandedShaped
import Derived.Shelf.Vars
import Derived.SevenTiedAt
import Derived.Test.YtkbhjejalkbogaaGreatDoorCards
import Derived.Test.YtkbhjejalkbogaaGreatDoorTie

/- strings.Split, Cut, TrimPrefix at one byte, by the shelf; cuts by hand. -/
set_option linter.unusedVariables false
set_option linter.unusedSimpArgs false
namespace Go.Proofs.YtkbhjejalkbogaaGreatDoor
open Go Go.Av Go.RowKit

/-! ### The library's cuts are these cuts -/
theorem ib_none {c : UInt8} : ∀ {l : List UInt8}, c ∉ l → Lib.indexByte l c = -1
  | [], _ => rfl
  | b :: r, h => by
    have h1 : ¬ b = c := fun e => h (e ▸ List.mem_cons_self)
    have h2 : c ∉ r := fun e => h (List.mem_cons_of_mem _ e)
    rw [Lib.indexByte, if_neg (by simpa using h1), ib_none h2]; rfl
theorem ib_at {c : UInt8} : ∀ {a r : List UInt8}, c ∉ a → Lib.indexByte (a ++ c :: r) c = (a.length : Int)
  | [], r, _ => by simp [Lib.indexByte]
  | b :: a, r, h => by
    have h1 : ¬ b = c := fun e => h (e ▸ List.mem_cons_self)
    have h2 : c ∉ a := fun e => h (List.mem_cons_of_mem _ e)
    rw [List.cons_append, Lib.indexByte, if_neg (by simpa using h1), ib_at h2, if_neg (by simp)]
    simp
theorem split_first {c : UInt8} : ∀ {l : List UInt8}, c ∈ l → ∃ a r, l = a ++ c :: r ∧ c ∉ a
  | b :: r, h => by
    by_cases e : b = c
    · exact ⟨[], r, by rw [e]; rfl, by simp⟩
    · have : c ∈ r := by
        rcases List.mem_cons.1 h with h | h
        · exact absurd h.symm e
        · exact h
      obtain ⟨a, t, h1, h2⟩ := split_first this
      exact ⟨b :: a, t, by rw [h1]; rfl, fun h => by rcases List.mem_cons.1 h with h | h; exact e h.symm; exact h2 h⟩
theorem count_at {c : UInt8} {a r : List UInt8} (h : c ∉ a) : (a ++ c :: r).count c = r.count c + 1 := by
  rw [List.count_append, List.count_eq_zero.2 h, List.count_cons_self]; omega
theorem countFrom_one {c : UInt8} : ∀ (fuel : Nat) (l : List UInt8), l.length < fuel → Lib.countFrom [c] fuel l = l.count c
  | 0, l, h => by omega
  | fuel + 1, l, h => by
    unfold Lib.countFrom
    by_cases hc : c ∈ l
    · obtain ⟨a, r, rfl, ha⟩ := split_first hc
      rw [Lib.index_one, ib_at ha, if_neg (by simp)]
      have e : (a ++ c :: r).drop ((a.length : Int).toNat + [c].length) = r := by simp [List.drop_append]
      rw [e, count_at ha, countFrom_one fuel r (by simp at h; omega)]; omega
    · rw [Lib.index_one, ib_none hc, if_pos (by simp), List.count_eq_zero.2 hc]
theorem splitK_one {c : UInt8} : ∀ (k : Nat) (l : List UInt8), l.count c ≤ k → Lib.splitK [c] 0 k l = cutL c l
  | 0, l, h => by
    have : c ∉ l := List.count_eq_zero.1 (by omega)
    rw [cutL_none this]; rfl
  | k + 1, l, h => by
    unfold Lib.splitK
    by_cases hc : c ∈ l
    · obtain ⟨a, r, rfl, ha⟩ := split_first hc
      rw [Lib.index_one, ib_at ha, if_neg (by simp), cutL_at ha]
      have e : (a ++ c :: r).drop ((a.length : Int).toNat + [c].length) = r := by simp [List.drop_append]
      have e2 : (a ++ c :: r).take ((a.length : Int).toNat + 0) = a := by simp
      rw [count_at ha] at h
      rw [e, e2, splitK_one k r (by omega)]
    · rw [Lib.index_one, ib_none hc, if_pos (by simp), cutL_none hc]
theorem cutL_length {c : UInt8} (l : List UInt8) : (cutL c l).length = l.count c + 1 := by
  suffices h : ∀ (n : Nat) (l : List UInt8), l.length ≤ n → (cutL c l).length = l.count c + 1 from h l.length l (Nat.le_refl _)
  intro n
  induction n with
  | zero => intro l h; have : l = [] := List.eq_nil_of_length_eq_zero (by omega); subst this; rfl
  | succ n ih =>
    intro l h
    by_cases hc : c ∈ l
    · obtain ⟨a, r, rfl, ha⟩ := split_first hc
      rw [cutL_at ha, count_at ha, List.length_cons, ih r (by simp at h; omega)]
    · rw [cutL_none hc, List.count_eq_zero.2 hc]; rfl
theorem splitB_cutS (s : ByteArray) (c : UInt8) : Lib.splitB ⟨#[c]⟩ 0 (Lib.countB s ⟨#[c]⟩) s = cutS c s := by
  have h := Lib.splitB_data ⟨#[c]⟩ 0 (Lib.countB s ⟨#[c]⟩) s
  have e : Lib.countB s ⟨#[c]⟩ = (bl s).count c := countFrom_one (c := c) _ _ (by show s.data.toList.length < s.data.toList.length + 1; omega)
  have h2 : (Lib.splitB ⟨#[c]⟩ 0 (Lib.countB s ⟨#[c]⟩) s).map bl = cutL c (bl s) := by
    rw [← splitK_one (c := c) (Lib.countB s ⟨#[c]⟩) (bl s) (by omega)]; exact h
  rw [cutS, ← h2, List.map_map]
  have : (ofL ∘ bl) = id := by funext x; exact ofL_bl x
  rw [this, List.map_id]
theorem countB_len (s : ByteArray) (c : UInt8) : Lib.countB s ⟨#[c]⟩ + 1 = (cutS c s).length := by
  have e : Lib.countB s ⟨#[c]⟩ = (bl s).count c := countFrom_one (c := c) _ _ (by show s.data.toList.length < s.data.toList.length + 1; omega)
  rw [cutS, List.length_map, cutL_length, e]
theorem cut_at {c : UInt8} {a r : List UInt8} (h : c ∉ a) : Lib.cut (a ++ c :: r) [c] = (a, r, true) := by
  unfold Lib.cut
  rw [Lib.index_one, ib_at h, if_pos (by omega)]
  simp [List.drop_append]
theorem cut_len (c : UInt8) (l : List UInt8) : (Lib.cut l [c]).1.length ≤ l.length ∧ (Lib.cut l [c]).2.1.length ≤ l.length := by
  by_cases hc : c ∈ l
  · obtain ⟨a, r, rfl, ha⟩ := split_first hc
    rw [cut_at ha]; simp; omega
  · unfold Lib.cut
    rw [Lib.index_one, ib_none hc, if_neg (by omega)]; simp
def trimB (t : ByteArray) : ByteArray := if 1 ≤ t.size ∧ t.extract 0 1 = ⟨#[47]⟩ then t.extract 1 t.size else t
theorem trimB_size (t : ByteArray) : (trimB t).size ≤ t.size := by
  unfold trimB; split
  · rw [ByteArray.size_extract]; omega
  · omega

section
variable {w0 : World} {σ : Vw}

/-- The variable that the library reads holds a number. -/
def MaxL (w0 : World) : Prop := ∃ m, ∀ w, Below w0.heap.size w0 w → w.cell? ⟨0, 0, none⟩ = some (.int .i64 m)

theorem strings_Split (mx : MaxL w0) {s : ByteArray} {c : UInt8} (hs : s.size ≤ 1000000000) {R : Value → Vw → Prop} (hR : ∀ v F σ', Keeps σ σ' → OStrs w0 σ' F v (cutS c s) → (∀ b, b ∈ F → σ b = none) → R v σ') : AC Tryz.prog w0 n_strings_Split [.string s, .string ⟨#[c]⟩] σ R := by
  refine ⟨is_strings_Split, fun w hw => ?_⟩
  obtain ⟨m, hm⟩ := mx
  refine (Tryz.strings_Split s ⟨#[c]⟩ m w (by omega) (hm w hw.bel) (Nat.le_refl 1)).mono ?_
  rintro e w' ⟨rfl, rfl⟩
  rw [splitB_cutS, countB_len]
  have hn : σ w.heap.size = none := by
    cases h : σ w.heap.size with
    | none => rfl
    | some r => exact absurd (hw.lt h) (Nat.lt_irrefl _)
  have hcl := cutS_len c s
  refine ⟨_, σ.put w.heap.size ⟨t_string, (cutS c s).map .string, (cutS c s).length, (0, 0)⟩, rfl, hR _ [w.heap.size] _ (Keeps.put hn) (own_strs hw.bel.size put_at rfl ⟨Nat.le_refl _, by omega⟩ fun x hx => ?_) (fun i hi => by rw [List.mem_singleton.1 hi]; exact hn), ?_⟩
  · have := cutS_mem hx; omega
  · exact Aft.row hw _ ⟨t_string, (cutS c s).map .string, (cutS c s).length, (0, 0)⟩ (by simp) (by simp) rfl

theorem strings_Cut (mx : MaxL w0) {s : ByteArray} {c : UInt8} (hs : s.size ≤ 1000000000) {R : Value → Vw → Prop}
    (hR : R (.tuple ⟨[.string (ofL (Lib.cut (bl s) [c]).1), .string (ofL (Lib.cut (bl s) [c]).2.1), .bool (Lib.cut (bl s) [c]).2.2]⟩) σ) : AC Tryz.prog w0 n_strings_Cut [.string s, .string ⟨#[c]⟩] σ R := by
  refine AC.of_calls is_strings_Cut fun w hw => ?_
  obtain ⟨m, hm⟩ := mx
  refine (Tryz.strings_Cut s ⟨#[c]⟩ m w (by omega) (hm w hw.bel)).mono ?_
  rintro e w' ⟨rfl, n, rfl⟩
  exact ⟨_, rfl, hR, below_drewN (Below.refl _ _) n⟩

theorem strings_TrimPrefix {t : ByteArray} (ht : t.size ≤ 1000000000) {R : Value → Vw → Prop} (hR : R (.string (trimB t)) σ) : AC Tryz.prog w0 n_strings_TrimPrefix [.string t, .string ⟨#[47]⟩] σ R := by
  refine ac_strings_TrimPrefix ?_
  unfold vc_strings_TrimPrefix
  refine ac_internal_stringslite_TrimPrefix ?_
  unfold vc_internal_stringslite_TrimPrefix
  refine ac_internal_stringslite_HasPrefix ?_
  unfold vc_internal_stringslite_HasPrefix
  have e1 : (⟨#[47]⟩ : ByteArray).size = 1 := rfl
  rw [pLenS_s, pLenS_s, pBin_ge, pIf_d, e1]
  refine ⟨fun h => ?_, fun h => ?_⟩
  · rw [pLenS_s, e1]
    refine pSliceStr_s (l := 0) (h := 1) rfl rfl (by omega) ?_
    rw [pBin_seq]
    show pIf (.bool (decide (t.extract 0 1 = ⟨#[47]⟩))) _ _
    rw [pIf_d]
    refine ⟨fun hp => ?_, fun hp => ?_⟩
    · rw [pLenS_s, e1]
      refine pSliceStr_s (l := 1) (h := t.size) rfl rfl (by omega) ?_
      rw [trimB, if_pos ⟨by omega, hp⟩] at hR
      exact hR
    · rw [trimB, if_neg (fun h => hp h.2)] at hR; exact hR
  · show pIf (.bool false) _ _
    rw [pIf_b]
    refine ⟨nofun, fun _ => ?_⟩
    rw [trimB, if_neg (fun h' => by omega)] at hR; exact hR

/-! ### A cut by hand -/
/-- The pieces that are whole ahead of a place, and where the next begins. -/
theorem spec_l1Cut {s : ByteArray} {c : UInt8} (hs : s.size ≤ 1000000000) {R : Value → Vw → Prop} (hR : ∀ v F σ', Keeps σ σ' → OStrs w0 σ' F v (cutS c s) → (∀ b, b ∈ F → σ b = none) → R v σ') : AC Tryz.prog w0 n_spec_l1Cut [.string s, .int .u8 (c.toNat : Int)] σ R := by
  refine ac_spec_l1Cut ?_
  unfold vc_spec_l1Cut
  intro b h1 h2
  have kb : Keeps σ (σ.put b ⟨t_string, [], 0, (0, 0)⟩) := Keeps.put h2
  have hb0 : ∀ i, i ∈ [b] → σ i = none := fun i hi => by rw [List.mem_singleton.1 hi]; exact h2
  refine loop_rule (m := s.size) (fun m l st => ∃ (i f : Nat) (v : Value) (F : List Nat) (out : List ByteArray), m + i = s.size ∧ f ≤ i ∧ Keeps σ st ∧ (∀ j, j ∈ F → σ j = none) ∧ OAcc w0 t_string 1 OStr st F v out ∧ out.length ≤ i ∧ c ∉ ((bl s).take i).drop f ∧ cutL c (bl s) = out.map bl ++ cutL c ((bl s).drop f) ∧ l = [.string s, .int .u8 (c.toNat : Int), v, .int .i64 (f : Nat), .int .i64 (i : Nat)]) ?_
    ⟨0, 0, _, [b], [], by omega, Nat.le_refl _, kb, hb0, OAcc.new h1, Nat.le_refl _, by simp, by simp, rfl⟩
  rintro m l st L ⟨i, f, v, F, out, hm, hfi, ks, hF, ho, hol, hnc, hcut, rfl⟩ hL
  simp only [vget, List.getD_cons_zero, List.getD_cons_succ]
  have hlen : (bl s).length = s.size := size_bl s
  rw [pLenS_s, pBin_lt, pIf_d]
  refine ⟨fun hi => ?_, fun hi => ?_⟩
  · have hi' : i < s.size := by omega
    have hget := bl_get s i hi'
    generalize hb : s[i]'hi' = x at hget
    refine pIndexStr_s hi' ?_
    rw [hb, pBin_eq, pIf_d]
    refine ⟨fun e => ?_, fun e => ?_⟩
    · have e : x = c := UInt8.toNat_inj.1 (by omega)
      subst e
      refine pSliceStr_s (l := (f : Nat)) (h := (i : Nat)) rfl rfl (by omega) ?_
      rw [Int.toNat_natCast, Int.toNat_natCast, pVal1 rfl]
      refine ho.one (ok_str w0) (f := []) (y := s.extract f i) ⟨rfl, rfl, by rw [ByteArray.size_extract]; omega⟩ (by simp) (by omega) (by omega) fun v2 F2 s2 k2 o2 f2 => ?_
      rw [pBin_add (by omega), pBin_add (by omega)]
      have hF2 : ∀ j, j ∈ F2 → σ j = none := fresh_in ks hF fun j hj => by
        rcases f2 j hj with h | h | h
        · exact .inl h
        · cases h
        · exact .inr h
      refine hL _ _ (m - 1) (by omega) ⟨i + 1, i + 1, v2, F2, out ++ [s.extract f i], by omega, Nat.le_refl _, k2.old ks hF, hF2, o2, by simp; omega, by simp, ?_, by simp⟩
      have hsplit : (bl s).drop f = ((bl s).take i).drop f ++ x :: (bl s).drop (i + 1) := by
        have h3 : bl s = (bl s).take i ++ x :: (bl s).drop (i + 1) := by
          have hl : i < (bl s).length := by omega
          have hx : (bl s)[i]'hl = x := (List.getElem?_eq_some_iff.1 hget).2
          rw [← hx, ← List.drop_eq_getElem_cons hl, List.take_append_drop]
        conv => lhs; rw [h3]
        rw [List.drop_append_of_le_length (by rw [List.length_take]; omega)]
      rw [hcut, hsplit, cutL_at hnc, List.map_append, List.append_assoc]
      congr 1
      simp only [List.map_cons, List.map_nil, List.singleton_append, List.cons.injEq, and_true]
      rw [bl_extract, List.drop_take]
    · rw [pBin_add (by omega)]
      refine hL _ _ (m - 1) (by omega) ⟨i + 1, f, v, F, out, by omega, by omega, ks, hF, ho, by omega, ?_, hcut, by simp⟩
      rw [List.take_add_one, hget, Option.toList_some, List.drop_append_of_le_length (by rw [List.length_take]; omega)]
      intro h
      rcases List.mem_append.1 h with h | h
      · exact hnc h
      · rw [List.mem_singleton] at h
        subst h; exact e rfl
  · have e : i = s.size := by omega
    subst e
    show pSliceStr (.string s) (some (.int .i64 (f : Nat))) none _
    refine pSliceStr_s (l := (f : Nat)) (h := s.size) rfl rfl (by omega) ?_
    rw [Int.toNat_natCast, Int.toNat_natCast, pVal1 rfl]
    refine ho.one (ok_str w0) (f := []) (y := s.extract f s.size) ⟨rfl, rfl, by rw [ByteArray.size_extract]; omega⟩ (by simp) (by omega) (by omega) fun v2 F2 s2 k2 o2 f2 => ?_
    have hF2 : ∀ j, j ∈ F2 → σ j = none := fresh_in ks hF fun j hj => by
      rcases f2 j hj with h | h | h
      · exact .inl h
      · cases h
      · exact .inr h
    have hfin : out ++ [s.extract f s.size] = cutS c s := by
      rw [List.take_of_length_le (by omega)] at hnc
      rw [cutL_none hnc] at hcut
      have e2 : bl (s.extract f s.size) = (bl s).drop f := by
        rw [bl_extract, List.take_of_length_le (by rw [List.length_drop]; omega)]
      rw [cutS, hcut, ← e2, List.map_append, List.map_map]
      have : (ofL ∘ bl) = id := by funext x; exact ofL_bl x
      rw [this, List.map_id, List.map_cons, List.map_nil, ofL_bl]
    rw [hfin] at o2
    exact hR v2 F2 s2 (k2.old ks hF) o2.osl hF2

/-- The list without its first text. -/
theorem strs_tail {F : List Nat} {v : Value} {xs : List ByteArray} (h : OStrs w0 σ F v xs) (hx : 1 ≤ xs.length) {K : Value → Prop} (hK : ∀ v' F', (∀ i, i ∈ F' → i ∈ F) → OStrs w0 σ F' v' (xs.drop 1) → K v') : pSlice 1 v (some (.int .i64 1)) none K := by
  obtain ⟨h1, h2, ⟨rfl, rfl, _⟩ | ⟨b, off, cap, r, pre, post, css, Fs, rfl, gc, g2, g3, g4, g5, g6, g7, g8, g9⟩⟩ := h
  · simp at hx
  refine ⟨_, xs.length, cap, 1, xs.length, rfl, rfl, rfl, by omega, by omega, by omega, ?_⟩
  by_cases hl : xs.length = 1
  · have e : xs.drop 1 = [] := List.eq_nil_of_length_eq_zero (by rw [List.length_drop]; omega)
    have : ∀ A : Option Addr, ∀ k : Nat, k ≤ 9223372036854775807 → (A = none ∧ k = 0) ∨ (∃ o, A = some ⟨b, o, none⟩ ∧ o ≤ pre.length + 1) → K (.slice A 0 k) := by
      intro A k hk hA
      rcases hA with ⟨rfl, rfl⟩ | ⟨o, rfl, ho⟩
      · exact hK _ [] (by simp) (by rw [e]; exact ⟨by simp, by simp, .inl ⟨rfl, rfl, rfl⟩⟩)
      · refine hK _ [b] (fun i hi => by rw [g8]; simp at hi; simp [hi]) ?_
        rw [e]
        have hcl : css.length = 1 := by omega
        obtain ⟨c0, rfl⟩ : ∃ c0, css = [c0] := by
          match css, hcl with
          | [c0], _ => exact ⟨c0, rfl⟩
        have hc1 : c0.length = 1 := by
          obtain ⟨x0, hx0⟩ : ∃ x0, xs[0]? = some x0 := ⟨_, List.getElem?_eq_getElem (by omega)⟩
          obtain ⟨f0, hf0⟩ : ∃ f0, Fs[0]? = some f0 := ⟨_, List.getElem?_eq_getElem (by omega)⟩
          obtain ⟨_, rfl, _⟩ := g9 0 c0 x0 f0 rfl hx0 hf0
          rfl
        refine ⟨by simp, by simp, .inr ⟨b, o, k, r, (r.cells).take o, (r.cells).drop o, [], [], rfl, ⟨by simp, hk⟩, g2, g3, by simp, ?_, rfl, rfl, rfl, fun j c x f e1 => by simp at e1⟩⟩
        rw [List.length_take, g4]
        simp only [List.flatten_cons, List.flatten_nil, List.append_nil, List.length_append, hc1]
        omega
    have hz : ((xs.length : Int).toNat - (1 : Int).toNat) = 0 := by omega
    rw [hz]
    split
    · exact this _ _ (by omega) (.inr ⟨off, rfl, by omega⟩)
    · refine this _ _ (by omega) (.inr ⟨off + 1, ?_, by omega⟩)
      show some (Addr.add ⟨b, off, none⟩ ((1 : Int).toNat * 1)) = _
      rw [addr_add]; rfl
  · have hcap : ¬ cap = (1 : Int).toNat := by have : (1 : Int).toNat = 1 := rfl; omega
    rw [if_neg hcap]
    cases xs with
    | nil => simp at hx
    | cons x0 xs =>
    cases css with
    | nil => simp at g6
    | cons c0 css =>
    cases Fs with
    | nil => simp at g7
    | cons f0 Fs =>
      simp only [List.length_cons] at g6 g7 hl gc h1
      obtain ⟨hf0, rfl, _⟩ := g9 0 c0 x0 f0 rfl rfl rfl
      subst hf0
      refine hK _ (b :: Fs.flatten) (fun i hi => by rw [g8]; simpa using hi) ?_
      have e : Option.map (fun x => x.add ((1 : Int).toNat * 1)) (some (Addr.mk b off none)) = some ⟨b, off + 1, none⟩ := by
        show some (Addr.add ⟨b, off, none⟩ ((1 : Int).toNat * 1)) = _
        rw [addr_add]; rfl
      rw [e]
      have hlen : (((x0 :: xs).length : Int).toNat - (1 : Int).toNat) = xs.length := by simp
      rw [hlen, List.drop_one, List.tail_cons]
      refine ⟨by omega, by rw [g8] at h2; simpa using h2, .inr ⟨b, off + 1, cap - 1, r, pre ++ [.string x0], post, css, Fs, rfl, by omega, g2, g3, by rw [g4]; simp, by simp [g5], by omega, by omega, rfl, fun j c x f e1 e2 e3 => g9 (j + 1) c x f (by simpa using e1) (by simpa using e2) (by simpa using e3)⟩⟩
end
end Go.Proofs.YtkbhjejalkbogaaGreatDoor

/- Trails read from texts: two ways to read, and that they agree. -/
set_option linter.unusedVariables false
set_option linter.unusedSimpArgs false
namespace Go.Proofs.YtkbhjejalkbogaaGreatDoor
open Go Go.Av Go.RowKit

def subT : ByteArray := ⟨#[115, 117, 98]⟩
def atTx : ByteArray := ⟨#[97, 116]⟩
def slashT : ByteArray := ⟨#[47]⟩
def nilT : ByteArray := ⟨#[]⟩
/-- A line, as the program reads it. -/
def pathI (t : ByteArray) : List ByteArray := if trimB t = nilT then [] else cutS 47 (trimB t)
def mI (l : ByteArray) : Mk := (pathI (ofL (Lib.cut (bl l) [32]).2.1), decide (ofL (Lib.cut (bl l) [32]).1 = subT))
def parI (text : ByteArray) : List Mk := ((cutS 10 text).take ((cutS 10 text).length - 1)).map mI
noncomputable def readI (text : ByteArray) : List Mk × Bool := if trailOk (parI text) = true ∧ marksX (parI text) = text then (parI text, true) else ([], false)
/-- .. and as the reference does. -/
def mS (l : ByteArray) : Option Mk :=
  match cutS 32 l with
  | [a, b] => if (a ≠ subT ∧ a ≠ atTx) ∨ b = nilT ∨ (bl b).head? ≠ some 47 then none
    else some (if b = slashT then [] else (cutS 47 b).drop 1, decide (a = subT))
  | _ => none
def optAll {α β : Type} (f : α → Option β) : List α → Option (List β)
  | [] => some []
  | a :: r => (f a).bind fun b => (optAll f r).map fun bs => b :: bs
def parS (text : ByteArray) : Option (List Mk) := optAll mS ((cutS 10 text).take (min 7 ((cutS 10 text).length - 1)))
noncomputable def readS (text : ByteArray) : List Mk × Bool :=
  match parS text with
  | none => ([], false)
  | some ms => if trailOk ms = true ∧ marksX ms = text then (ms, true) else ([], false)

theorem optAll_snoc {α β : Type} {f : α → Option β} : ∀ {l : List α} {bs : List β} {a : α} {b : β}, optAll f l = some bs → f a = some b → optAll f (l ++ [a]) = some (bs ++ [b])
  | [], bs, a, b, h, ha => by
    simp only [optAll, Option.some.injEq] at h
    subst h
    simp [optAll, ha]
  | x :: l, bs, a, b, h, ha => by
    simp only [optAll, Option.bind_eq_some_iff, Option.map_eq_some_iff] at h
    obtain ⟨y, hy, ys, hys, rfl⟩ := h
    simp [optAll, hy, optAll_snoc hys ha]
theorem optAll_none {α β : Type} {f : α → Option β} : ∀ {l : List α} {j : Nat} {a : α}, l[j]? = some a → f a = none → optAll f l = none
  | x :: l, 0, a, h, ha => by
    simp at h; subst h
    simp [optAll, ha]
  | x :: l, j + 1, a, h, ha => by
    have := optAll_none (l := l) (j := j) (by simpa using h) ha
    simp [optAll, this]
theorem optAll_map {α β : Type} {f : α → Option β} {g : β → α} : ∀ {bs : List β}, (∀ b, b ∈ bs → f (g b) = some b) → optAll f (bs.map g) = some bs
  | [], _ => rfl
  | b :: bs, h => by
    have ih := optAll_map (f := f) (g := g) (bs := bs) fun c hc => h c (List.mem_cons_of_mem _ hc)
    simp [optAll, h b (by simp), ih]

/-! ### Good marks -/
def okNm (p : ByteArray) : Prop := (∀ b, b ∈ bl p → okB b.toNat) ∧ 1 ≤ p.size ∧ p.size ≤ 5
theorem nameOk_okNm {p : ByteArray} (h : nameOk p = true) : okNm p := by
  simp only [nameOk, Bool.and_eq_true, decide_eq_true_eq, inB] at h
  refine ⟨fun b hb => ?_, by omega, by omega⟩
  obtain ⟨j, hj⟩ := List.getElem?_of_mem hb
  have hlt : j < (bl p).length := (List.getElem?_eq_some_iff.1 hj).1
  rw [size_bl] at hlt
  rw [bl_get p j hlt] at hj
  cases hj
  exact h.1 j hlt
theorem allNames_ok : ∀ {ps : List ByteArray}, allNames ps = true → ∀ p, p ∈ ps → okNm p
  | x :: r, h, p, hp => by
    simp only [allNames, Bool.and_eq_true] at h
    rcases List.mem_cons.1 hp with rfl | hp
    · exact nameOk_okNm h.1
    · exact allNames_ok h.2 p hp
def okMk (m : Mk) : Prop := (∀ p, p ∈ m.1 → okNm p) ∧ m.1.length ≤ 4
theorem trail_marks {ms : List Mk} (h : trailOk ms = true) : (∀ m, m ∈ ms → okMk m) ∧ ms.length ≤ 6 := by
  simp only [trailOk, Bool.and_eq_true, decide_eq_true_eq] at h
  refine ⟨fun m hm => ?_, by omega⟩
  obtain ⟨j, hj⟩ := List.getElem?_of_mem hm
  have h1 := h.1 j m hj
  simp only [goodAt, Bool.and_eq_true] at h1
  have h2 := h1.1
  unfold markOkB at h2
  split at h2
  · rename_i e
    rw [okMk, e]; simp
  · simp only [Bool.and_eq_true, inB, decide_eq_true_eq] at h2
    exact ⟨allNames_ok h2.1, by omega⟩
theorem okB_no {b : UInt8} {c : UInt8} (h : okB b.toNat) (hc : c = 47 ∨ c = 32 ∨ c = 10) : b ≠ c := by
  rintro rfl
  unfold okB at h
  rcases hc with rfl | rfl | rfl <;> simp at h
theorem nm_no {p : ByteArray} (h : okNm p) {c : UInt8} (hc : c = 47 ∨ c = 32 ∨ c = 10) : c ∉ bl p := fun hm => okB_no (h.1 c hm) hc rfl
theorem sh_no : ∀ {ps : List ByteArray}, (∀ p, p ∈ ps → okNm p) → ∀ {c : UInt8}, c = 32 ∨ c = 10 → c ∉ bl (shN ps)
  | [], _, c, hc => by simp [shN]
  | p :: r, h, c, hc => by
    rw [shN, bl_append, bl_append]
    intro hm
    rcases List.mem_append.1 hm with hm | hm
    · rcases List.mem_append.1 hm with hm | hm
      · have : c = 47 := by simpa using hm
        rcases hc with rfl | rfl <;> simp at this
      · exact nm_no (h p (by simp)) (by rcases hc with h | h; exact .inr (.inl h); exact .inr (.inr h)) hm
    · exact sh_no (fun q hq => h q (by simp [hq])) hc hm
theorem path_no {m : Mk} (h : okMk m) {c : UInt8} (hc : c = 32 ∨ c = 10) : c ∉ bl (pathT m.1) := by
  unfold pathT
  split
  · rcases hc with rfl | rfl <;> simp
  · exact sh_no h.1 hc
theorem cut_sh : ∀ {r : List ByteArray} {p : ByteArray}, (∀ q, q ∈ p :: r → okNm q) → cutL 47 (bl p ++ bl (shN r)) = (p :: r).map bl
  | [], p, h => by
    simp only [shN, bl_empty, List.append_nil, List.map_cons, List.map_nil]
    exact cutL_none (nm_no (h p (by simp)) (.inl rfl))
  | q :: r, p, h => by
    have e : bl (shN (q :: r)) = 47 :: (bl q ++ bl (shN r)) := by rw [shN, bl_append, bl_append]; rfl
    rw [e, cutL_at (nm_no (h p (by simp)) (.inl rfl)), cut_sh fun s hs => h s (by simp at hs; simp [hs])]
    rfl
theorem map_ofL_bl (ps : List ByteArray) : (ps.map bl).map ofL = ps := by
  rw [List.map_map]
  have : (ofL ∘ bl) = id := by funext x; exact ofL_bl x
  rw [this, List.map_id]
theorem path_back {m : Mk} (h : okMk m) : pathI (pathT m.1) = m.1 ∧ (if pathT m.1 = slashT then [] else (cutS 47 (pathT m.1)).drop 1) = m.1 ∧ pathT m.1 ≠ nilT ∧ (bl (pathT m.1)).head? = some 47 := by
  obtain ⟨ps, d⟩ := m
  have h := h.1
  simp only at h ⊢
  cases ps with
  | nil =>
    refine ⟨?_, ?_, ?_, rfl⟩
    · have : trimB slashT = nilT := by
        rw [trimB, if_pos ⟨by decide, by apply bl_inj; rw [bl_extract]; rfl⟩]
        apply bl_inj; rw [bl_extract]; rfl
      show pathI slashT = []
      rw [pathI, if_pos this]
    · rw [if_pos (show pathT [] = slashT from rfl)]
    · intro e
      have := congrArg ByteArray.size e
      exact absurd this (by decide)
  | cons p r =>
    have hp : pathT (p :: r) = shN (p :: r) := by rw [pathT, if_neg (by simp)]
    rw [hp]
    have e : bl (shN (p :: r)) = 47 :: (bl p ++ bl (shN r)) := by rw [shN, bl_append, bl_append]; rfl
    have hsz := shN_size (p :: r)
    have hp1 := (h p (by simp)).2.1
    have hs2 : 2 ≤ (shN (p :: r)).size := by
      rw [hsz, List.length_cons, sumS]; omega
    have hcut := cut_sh h
    have htr : bl (trimB (shN (p :: r))) = bl p ++ bl (shN r) := by
      have h1 : (shN (p :: r)).extract 0 1 = ⟨#[47]⟩ := by
        apply bl_inj; rw [bl_extract, e]; rfl
      rw [trimB, if_pos ⟨by omega, h1⟩, bl_extract, e]
      rw [List.drop_one, List.tail_cons]
      apply List.take_of_length_le
      have := size_bl (shN (p :: r))
      rw [e, List.length_cons] at this
      omega
    refine ⟨?_, ?_, ?_, by rw [e]; rfl⟩
    · have hne : ¬ trimB (shN (p :: r)) = nilT := fun e2 => by
        rw [e2] at htr
        have : bl nilT = [] := rfl
        rw [this] at htr
        have h2 := congrArg List.length htr
        rw [List.length_append, size_bl] at h2
        simp at h2
        have h3 : p.size = 0 := by omega
        omega
      rw [pathI, if_neg hne, cutS, htr, hcut, map_ofL_bl]
    · have hne : ¬ shN (p :: r) = slashT := fun e2 => by
        have h2 := congrArg ByteArray.size e2
        have : slashT.size = 1 := rfl
        omega
      rw [if_neg hne, cutS, e]
      have := cutL_at (c := 47) (a := []) (r := bl p ++ bl (shN r)) (by simp)
      rw [List.nil_append] at this
      rw [this, hcut, List.map_cons, List.drop_one, List.tail_cons, map_ofL_bl]
    · intro e2
      have h2 := congrArg ByteArray.size e2
      have : nilT.size = 0 := rfl
      omega

def wordL (d : Bool) : List UInt8 := if d = true then [115, 117, 98] else [97, 116]
def lineL (m : Mk) : List UInt8 := wordL m.2 ++ 32 :: bl (pathT m.1)
theorem word_no (d : Bool) : (32 : UInt8) ∉ wordL d ∧ (10 : UInt8) ∉ wordL d := by cases d <;> simp [wordL]
theorem word_sub (d : Bool) : decide (ofL (wordL d) = subT) = d := by
  cases d
  · simp only [decide_eq_false_iff_not]
    intro e
    have := congrArg ByteArray.size e
    exact absurd this (by decide)
  · simp only [decide_eq_true_eq]; rfl
theorem bl_markX (m : Mk) : bl (markX m) = lineL m ++ [10] := by
  obtain ⟨ps, d⟩ := m
  cases d
  · simp only [markX, lineL, wordL, bl_append]
    rfl
  · simp only [markX, lineL, wordL, bl_append]
    rfl
theorem mI_line {m : Mk} (h : okMk m) : mI (ofL (lineL m)) = m := by
  unfold mI
  rw [bl_ofL, lineL, cut_at (word_no m.2).1]
  simp only
  rw [ofL_bl, (path_back h).1, word_sub]
theorem mS_line {m : Mk} (h : okMk m) : mS (ofL (lineL m)) = some m := by
  obtain ⟨h1, h2, h3, h4⟩ := path_back h
  have hc : cutS 32 (ofL (lineL m)) = [ofL (wordL m.2), pathT m.1] := by
    rw [cutS, bl_ofL, lineL, cutL_at (word_no m.2).1, cutL_none (path_no h (.inl rfl))]
    simp [ofL_bl]
  unfold mS
  rw [hc]
  simp only
  rw [if_neg, h2, word_sub]
  rintro (⟨e1, e2⟩ | e | e)
  · cases hd : m.2
    · rw [hd] at e2; exact e2 rfl
    · rw [hd] at e1; exact e1 rfl
  · exact h3 e
  · exact e h4
theorem lines_of : ∀ {ms : List Mk}, (∀ m, m ∈ ms → okMk m) → cutL 10 ((ms.map fun m => lineL m ++ [10]).flatten) = ms.map lineL ++ [[]]
  | [], _ => rfl
  | m :: ms, h => by
    have hm := h m (by simp)
    have hno : (10 : UInt8) ∉ lineL m := by
      intro hh
      rcases List.mem_append.1 hh with hh | hh
      · exact (word_no m.2).2 hh
      · rcases List.mem_cons.1 hh with hh | hh
        · simp at hh
        · exact path_no hm (.inr rfl) hh
    have e : ((m :: ms).map fun m => lineL m ++ [10]).flatten = lineL m ++ 10 :: (ms.map fun m => lineL m ++ [10]).flatten := by simp
    rw [e, cutL_at hno, lines_of fun x hx => h x (by simp [hx])]
    rfl
theorem bl_marksX (ms : List Mk) : bl (marksX ms) = (ms.map fun m => lineL m ++ [10]).flatten := by
  have h : ∀ (ms : List Mk) (a : ByteArray), bl (ms.foldl (fun a m => a ++ markX m) a) = bl a ++ (ms.map fun m => lineL m ++ [10]).flatten := by
    intro ms
    induction ms with
    | nil => intro a; simp
    | cons m ms ih => intro a; rw [List.foldl_cons, ih, bl_append, bl_markX]; simp
  have := h ms ⟨#[]⟩
  rw [bl_empty, List.nil_append] at this
  exact this
theorem back {ms : List Mk} (h : trailOk ms = true) : parI (marksX ms) = ms ∧ parS (marksX ms) = some ms := by
  obtain ⟨h1, h2⟩ := trail_marks h
  have hl : cutS 10 (marksX ms) = (ms.map fun m => ofL (lineL m)) ++ [ofL []] := by
    rw [cutS, bl_marksX, lines_of h1, List.map_append, List.map_map]; rfl
  constructor
  · unfold parI
    rw [hl]
    have : ((ms.map fun m => ofL (lineL m)) ++ [ofL []]).take (((ms.map fun m => ofL (lineL m)) ++ [ofL []]).length - 1) = ms.map fun m => ofL (lineL m) := by
      rw [List.take_append_of_le_length (by simp)]
      apply List.take_of_length_le; simp
    rw [this, List.map_map]
    conv => rhs; rw [← List.map_id ms]
    exact List.map_congr_left fun m hm => mI_line (h1 m hm)
  · unfold parS
    rw [hl]
    have : ((ms.map fun m => ofL (lineL m)) ++ [ofL []]).take (min 7 (((ms.map fun m => ofL (lineL m)) ++ [ofL []]).length - 1)) = ms.map fun m => ofL (lineL m) := by
      rw [List.take_append_of_le_length (by simp; omega)]
      apply List.take_of_length_le; simp; omega
    rw [this]
    exact optAll_map fun m hm => mS_line (h1 m hm)
theorem read_same (text : ByteArray) : readS text = readI text := by
  unfold readS readI
  split
  · rename_i hp
    rw [if_neg]
    rintro ⟨h1, h2⟩
    have := (back h1).2
    rw [h2, hp] at this
    cases this
  · rename_i ms hp
    split
    · rename_i h
      have := (back h.1).1
      rw [h.2] at this
      rw [this, if_pos h]
    · rename_i hn
      rw [if_neg]
      rintro ⟨h1, h2⟩
      have := (back h1).2
      rw [h2, hp] at this
      cases this
      exact hn ⟨h1, h2⟩
theorem ok_small {ms : List Mk} (h : trailOk ms = true) : ms.length + sumBy szMk ms ≤ 1000 := by
  obtain ⟨h1, h2⟩ := trail_marks h
  have hn : ∀ {ps : List ByteArray}, (∀ p, p ∈ ps → okNm p) → sumS ps ≤ 5 * ps.length := by
    intro ps
    induction ps with
    | nil => intro _; simp [sumS]
    | cons p r ih =>
      intro h
      have := (h p (by simp)).2.2
      have := ih fun q hq => h q (by simp [hq])
      simp only [sumS, List.length_cons]; omega
  have hs : ∀ {l : List Mk}, (∀ m, m ∈ l → okMk m) → sumBy szMk l ≤ 24 * l.length := by
    intro l
    induction l with
    | nil => intro _; simp [sumBy]
    | cons m r ih =>
      intro h
      have hm := h m (by simp)
      have h5 := hn hm.1
      have := hm.2
      have := ih fun q hq => h q (by simp [hq])
      simp only [sumBy, szMk, List.length_cons]; omega
  have := hs h1
  omega
end Go.Proofs.YtkbhjejalkbogaaGreatDoor

/- 'TrailRead' by either hand, and the law. -/
set_option linter.unusedVariables false
set_option linter.unusedSimpArgs false
namespace Go.Proofs.YtkbhjejalkbogaaGreatDoor
open Go Go.Av Go.RowKit

theorem none_atK {σ s : Vw} (k : Keeps σ s) {i : Nat} (h : s i = none) : σ i = none := by
  cases hs : σ i with
  | none => rfl
  | some r => rw [k i r hs] at h; cases h
theorem ext_stayK {w0 : World} {σ σ' : Vw} {v : Value} {n : Nat} (h : Ext σ σ') : Stay w0 σ σ' v n := fun a g _ hc j hj => get_ext h (hc j hj)
theorem readS_fail {text : ByteArray} {i : Nat} {l : ByteArray} (hi : i < min 7 ((cutS 10 text).length - 1)) (hl : (cutS 10 text)[i]? = some l) (h : mS l = none) : readS text = ([], false) := by
  have : parS text = none := optAll_none (j := i) (a := l) (by rw [List.getElem?_take_of_lt hi]; exact hl) h
  unfold readS; rw [this]
theorem mS_len {l : ByteArray} (h : (cutS 32 l).length ≠ 2) : mS l = none := by
  unfold mS
  split
  · rename_i a b e
    rw [e] at h; exact absurd rfl h
  · rfl

section
variable {w0 : World} {σ : Vw}

abbrev OutR (w0 : World) (σ : Vw) (y : List Mk × Bool) (R : Value → Vw → Prop) : Prop :=
  ∀ v F σ', Keeps σ σ' → OSl w0 2 (OMk w0) σ' F v y.1 → (∀ b, b ∈ F → σ b = none) → R (.tuple ⟨[v, .bool y.2]⟩) σ'

theorem read_none {s : Vw} {R : Value → Vw → Prop} (hR : OutR w0 σ ([], false) R) (k : Keeps σ s) {ety : Nat} : pNew w0 ety [] s (fun n s' => R (.tuple ⟨[.slice (some (Addr.mk n 0 none)) 0 0, .bool false]⟩) s') := fun b h1 h2 =>
  hR _ [b] _ (k.trans (Keeps.put h2)) (OAcc.new (ety := ety) h1).osl fun i hi => by rw [List.mem_singleton.1 hi]; exact none_atK k h2

theorem spec_l11Copy {v : Value} {ms : List Mk} (h : RSl 2 RMk (Av.get w0 σ) v ms) (hl : ms.length ≤ 1000000) (hp : ∀ m, m ∈ ms → m.1.length ≤ 1000000) {R : Value → Vw → Prop}
    (hR : ∀ v' F σ', Keeps σ σ' → OAcc w0 t_impl_Mark 2 (OMk w0) σ' F v' ms → (∀ b, b ∈ F → σ b = none) → R v' σ') : AC Tryz.prog w0 n_spec_l11Copy [v] σ R := by
  refine ac_spec_l11Copy ?_
  unfold vc_spec_l11Copy
  intro b h1 h2
  have kb : Keeps σ (σ.put b ⟨t_impl_Mark, [], 0, (0, 0)⟩) := Keeps.put h2
  have hb0 : ∀ i, i ∈ [b] → σ i = none := fun i hi => by rw [List.mem_singleton.1 hi]; exact h2
  refine loop_rule (m := ms.length) (fun m l s => ∃ (j : Nat) (v' : Value) (F : List Nat), m + j = ms.length ∧ Keeps σ s ∧ OAcc w0 t_impl_Mark 2 (OMk w0) s F v' (ms.take j) ∧ (∀ i, i ∈ F → σ i = none) ∧ l = [v, v', .int .i64 (j : Nat)]) ?_
    ⟨0, _, [b], by omega, kb, OAcc.new h1, hb0, rfl⟩
  rintro m l s L ⟨j, v', F, hm, ks, ho, hF, rfl⟩ hL
  simp only [vget, List.getD_cons_zero, List.getD_cons_succ]
  have h' := h.mono ks.le fun es x => mono_mk ks.le
  rw [h'.len, pBin_lt, pIf_d]
  refine ⟨fun hi => ?_, fun hi => ?_⟩
  · have hx := List.getElem?_eq_getElem (show j < ms.length by omega)
    generalize hxi : ms[j]'(by omega) = y at hx
    have hyl := hp y (List.mem_of_getElem? hx)
    refine h'.atfp hx 0 (by omega) fun q0 es g hg0 hg => ?_
    obtain ⟨u, rfl, hu⟩ := hg0
    simp only [List.getElem?_cons_zero, List.getElem?_cons_succ, Option.some.injEq] at hg
    refine h'.atfp hx 1 (by omega) fun q1 es g' hg1 hg' => ?_
    obtain ⟨u', rfl, hu'⟩ := hg1
    simp only [List.getElem?_cons_zero, List.getElem?_cons_succ, Option.some.injEq] at hg'
    rw [← hg, ← hg']
    intro c h3 h4
    have kc : Keeps s (s.put c ⟨t_string, [], 0, (0, 0)⟩) := Keeps.put h4
    have hc0 : ∀ i, i ∈ [c] → s i = none := fun i hi => by rw [List.mem_singleton.1 hi]; exact h4
    refine ⟨kc.stay, kc.stay, ?_⟩
    refine (OAcc.new (w0 := w0) (σ := s) (ety := t_string) (n := 1) (O := OStr) h3).allX (ok_str w0) hu kc.le (fun es y hy => ⟨rfl, hy⟩) (by simp; omega) (by omega) fun u2 F1 s1 hext k1 o1 g1 => ⟨ext_stayK hext, ?_⟩
    rw [List.nil_append] at o1
    have K1 := k1.old kc hc0
    have hF1 := fresh_in kc hc0 g1
    rw [pVal1 (OSl.one' o1.osl), pVal1 rfl, pVal_2 (OSl.one' o1.osl) rfl]
    have ho1 := ho.frame (ok_mk w0) (K1.but_at fun b hb => (ho.dom (ok_mk w0) b hb).2)
    refine ho1.one (ok_mk w0) (f := F1) (y := y) ⟨u2, rfl, o1.osl⟩ (fun i hi hi' => (ho.dom (ok_mk w0) i hi').2 (hF1 i hi)) (by rw [List.length_take]; omega) (by omega) fun v4 F4 s4 k4 o4 g4 => ?_
    rw [pBin_add (by omega)]
    have KS := ks.trans K1
    refine hL _ _ (m - 1) (by omega) ⟨j + 1, v4, F4, by omega, k4.old KS hF, ?_, fun i hi => ?_, by simp⟩
    · rw [List.take_add_one, hx]; exact o4
    · rcases g4 i hi with h | h | h
      · exact hF i h
      · exact none_atK ks (hF1 i h)
      · exact none_atK KS h
  · have e : j = ms.length := by omega
    subst e
    rw [List.take_length] at ho
    exact hR v' F s ks ho hF

theorem nil_pathK : OStrs w0 σ [] (.slice none 0 0) [] := ⟨by simp, by simp, .inl ⟨rfl, rfl, rfl⟩⟩

theorem spec_TrailRead {text : ByteArray} (hs : text.size ≤ 1048576) {R : Value → Vw → Prop} (hR : OutR w0 σ (readS text) R) : AC Tryz.prog w0 n_spec_TrailRead [.string text] σ R := by
  refine ac_spec_TrailRead ?_
  unfold vc_spec_TrailRead cs_spec_TrailRead_2 cs_spec_TrailRead_1
  intro b h1 h2
  have kb : Keeps σ (σ.put b ⟨t_impl_Mark, [], 0, (0, 0)⟩) := Keeps.put h2
  have hb0 : ∀ i, i ∈ [b] → σ i = none := fun i hi => by rw [List.mem_singleton.1 hi]; exact h2
  refine spec_l1Cut (c := 10) (by omega) fun lv LF s1 k1 ol fl => ?_
  have K1 := kb.trans k1
  have new := OAcc.new (w0 := w0) (σ := σ) (ety := t_impl_Mark) (n := 2) (O := OMk w0) h1
  have new1 := new.frame (ok_mk w0) (k1.but_at fun b hb => (new.dom (ok_mk w0) b hb).2)
  have hlr := ol.rel (ok_str w0)
  have hcl := cutS_len 10 text
  have hcp := cutS_pos 10 text
  generalize hL0 : cutS 10 text = lines at ol hlr hcl hcp
  have hN : ∀ i, i < min 7 (lines.length - 1) → i < min 7 ((cutS 10 text).length - 1) := fun i hi => by rw [hL0]; exact hi
  have none_ret : ∀ {i : Nat} {l : ByteArray}, i < min 7 (lines.length - 1) → lines[i]? = some l → mS l = none → OutR w0 σ ([], false) R := fun hi hl hm => by
    have := readS_fail (hN _ hi) (by rw [hL0]; exact hl) hm
    rw [this] at hR; exact hR
  refine loop_rule (m := lines.length) (fun m l s => ∃ (i : Nat) (v : Value) (F : List Nat) (bs : List Mk), m + i = lines.length ∧ i ≤ min 7 (lines.length - 1) ∧ Keeps σ s ∧ OStrs w0 s LF lv lines ∧ (∀ j, j ∈ LF → j ∉ F) ∧ OAcc w0 t_impl_Mark 2 (OMk w0) s F v bs ∧ bs.length = i ∧ (∀ j, j ∈ F → σ j = none) ∧ optAll mS (lines.take i) = some bs ∧
      l = [.string text, .slice none 0 0, .bool false, v, lv, .int .i64 (i : Nat)]) ?_
    ⟨0, _, [b], [], by omega, by omega, K1, ol, (fun j hj hj' => (new.dom (ok_mk w0) j hj').2 (fl j hj)), new1, rfl, hb0, rfl, rfl⟩
  rintro m l s L ⟨i, v, F, bs, hm, hiN, ks, hol, hdl, ho, hbl, hF, hopt, rfl⟩ hL
  simp only [vget, List.getD_cons_zero, List.getD_cons_succ]
  have hlr' := hol.rel (ok_str w0)
  have fin : i = min 7 (lines.length - 1) → AC Tryz.prog w0 n_spec_TrailOk [v] s (fun v86 s87 => pUn UnOp.not v86 (fun v88 => pIf v88 (pNew w0 t_impl_Mark [] s87 (fun n89 s90 => R (.tuple (⟨[.slice (some (Addr.mk n89 0 none)) 0 0, .bool false]⟩)) s90)) (AC Tryz.prog w0 n_spec_TrailShow [v] s87 (fun v91 s92 => pBin Tryz.prog 9 .neq v91 (.string text) (fun v93 => pIf v93 (pNew w0 t_impl_Mark [] s92 (fun n94 s95 => R (.tuple (⟨[.slice (some (Addr.mk n94 0 none)) 0 0, .bool false]⟩)) s95)) (AC Tryz.prog w0 n_spec_l11Copy [v] s92 (fun v96 s97 => R (.tuple (⟨[v96, .bool true]⟩)) s97))))))) := by
    intro hi
    have hp : parS text = some bs := by unfold parS; rw [hL0, ← hi]; exact hopt
    have hr : readS text = if trailOk bs = true ∧ marksX bs = text then (bs, true) else ([], false) := by unfold readS; rw [hp]
    have hrel := ho.osl.rel (ok_mk w0)
    refine spec_TrailOk hrel ?_
    rw [pUn_not, pIf_b]
    refine ⟨fun hn => ?_, fun hn => ?_⟩
    · have hn : trailOk bs = false := by simpa using hn
      rw [hr, if_neg (by rw [hn]; simp)] at hR
      exact read_none hR ks
    · have hn : trailOk bs = true := by simpa using hn
      have hsm := ok_small hn
      refine spec_TrailShow hrel (by omega) ?_
      rw [showM, if_pos hn, pBin_sne, pIf_d]
      refine ⟨fun hne => ?_, fun he => ?_⟩
      · rw [hr, if_neg (fun h => hne h.2)] at hR
        exact read_none hR ks
      · rw [hr, if_pos ⟨hn, Decidable.not_not.1 he⟩] at hR
        have hmk := trail_marks hn
        refine spec_l11Copy hrel (by omega) (fun m hm => by have := (hmk.1 m hm).2; omega) fun v3 F3 s3 k3 o3 f3 => ?_
        exact hR v3 F3 s3 (ks.trans k3) o3.osl fun j hj => none_atK ks (f3 j hj)
  rw [pBin_add (by omega), hlr.len, pBin_lt, pIf_d]
  refine ⟨fun hi1 => ?_, fun hi1 => fin (by omega)⟩
  rw [pBin_le, pIf_d]
  refine ⟨fun hi6 => ?_, fun hi6 => fin (by omega)⟩
  have hiN' : i < min 7 (lines.length - 1) := by omega
  have hx := List.getElem?_eq_getElem (show i < lines.length by omega)
  generalize hxi : lines[i]'(by omega) = line at hx
  have hlsz : line.size ≤ 1048576 := by
    have := cutS_mem (c := 10) (s := text) (w := line) (by rw [hL0]; exact List.mem_of_getElem? hx)
    omega
  have nr : mS line = none → OutR w0 σ ([], false) R := fun h => none_ret hiN' hx h
  refine RSl.at1 hlr' hx fun g hg hgs => ?_
  rw [hg]
  refine spec_l1Cut (c := 32) (by omega) fun wv WF s2 k2 ow fw => ?_
  have hwr := ow.rel (ok_str w0)
  have K2 := ks.trans k2
  rw [hwr.len, pBin_ne, pIf_d]
  refine ⟨fun hne => read_none (nr (mS_len fun h => hne (by rw [h]; rfl))) K2, fun heq => ?_⟩
  have hlen2 : (cutS 32 line).length = 2 := by omega
  obtain ⟨a, bb, hw⟩ : ∃ a bb, cutS 32 line = [a, bb] := by
    match h : cutS 32 line, hlen2 with
    | [a, bb], _ => exact ⟨a, bb, rfl⟩
  have hmS : mS line = if (a ≠ subT ∧ a ≠ atTx) ∨ bb = nilT ∨ (bl bb).head? ≠ some 47 then none else some (if bb = slashT then [] else (cutS 47 bb).drop 1, decide (a = subT)) := by
    unfold mS; rw [hw]
  have hbsz : bb.size ≤ 1048576 := by
    have := cutS_mem (c := 32) (s := line) (w := bb) (by rw [hw]; simp)
    omega
  rw [hw] at hwr
  refine RSl.at1 (w0 := w0) (σ := s2) hwr (j := 0) (x := a) rfl fun g0 hg0 _ => ?_
  rw [hg0, pBin_sne, pIf_d]
  refine ⟨fun ha => ?a, fun ha => ?b⟩
  case' a =>
    refine RSl.at1 (w0 := w0) (σ := s2) hwr (j := 0) (x := a) rfl fun g0' hg0' _ => ?_
    rw [hg0', pBin_sne, pIf_d]
    refine ⟨fun ha2 => read_none (nr (by rw [hmS, if_pos (.inl ⟨ha, ha2⟩)])) K2, fun ha2 => ?_⟩
    have hword : ¬ (a ≠ subT ∧ a ≠ atTx) := fun h => ha2 h.2
  case' b =>
    have hword : ¬ (a ≠ subT ∧ a ≠ atTx) := fun h => ha h.1
  all_goals
    refine RSl.at1 (w0 := w0) (σ := s2) hwr (j := 1) (x := bb) rfl fun g1 hg1 _ => ?_
    rw [hg1, pBin_seq, pIf_d]
    refine ⟨fun hb => read_none (nr (by rw [hmS, if_pos (.inr (.inl hb))])) K2, fun hb => ?_⟩
    refine RSl.at1 (w0 := w0) (σ := s2) hwr (j := 1) (x := bb) rfl fun g2 hg2 _ => ?_
    have hb1 : 0 < bb.size := by
      rcases Nat.eq_zero_or_pos bb.size with h | h
      · have e0 : bl bb = [] := List.eq_nil_of_length_eq_zero (by rw [size_bl]; exact h)
        exact absurd (bl_inj (by rw [e0])) hb
      · exact h
    have hhd : (bl bb).head? = some (bb[0]'hb1) := by rw [List.head?_eq_getElem?]; exact bl_get bb 0 hb1
    rw [hg2]
    refine pIndexStr_s (j := 0) hb1 ?_
    generalize bb[0]'hb1 = b0 at hhd
    have hne47 : ¬ (b0.toNat : Int) = 47 → (bl bb).head? ≠ some 47 := fun hne e => by
      rw [hhd] at e
      have e := Option.some.inj e
      subst e
      exact hne rfl
    rw [pBin_ne, pIf_d]
    refine ⟨fun hb0 => read_none (nr (by rw [hmS, if_pos (.inr (.inr (hne47 hb0)))])) K2, fun hb0 => ?_⟩
    have hhd' : ¬ (bl bb).head? ≠ some 47 := by
      rw [hhd]
      intro e
      exact e (congrArg some (UInt8.toNat_inj.1 (by have := Decidable.not_not.1 hb0; show b0.toNat = 47; omega)))
    have hsome : mS line = some (if bb = slashT then [] else (cutS 47 bb).drop 1, decide (a = subT)) := by
      rw [hmS, if_neg]
      rintro (h | h | h)
      · exact hword h
      · exact hb h
      · exact hhd' h
    refine RSl.at1 (w0 := w0) (σ := s2) hwr (j := 0) (x := a) rfl fun g3 hg3 _ => ?_
    rw [hg3, pBin_seq, pVal1 rfl, pVal_2 rfl rfl]
    refine RSl.at1 (w0 := w0) (σ := s2) hwr (j := 1) (x := bb) rfl fun g4 hg4 _ => ?_
    rw [hg4, pBin_sne, pIf_d]
    have ho2 := ho.frame (ok_mk w0) (k2.but_at fun b hb => (ho.dom (ok_mk w0) b hb).2)
    have hol2 := hol.frame (ok_str w0) (k2.but_at fun b hb => (hol.dom (ok_str w0) b hb).2)
    refine ⟨fun hsl => ?_, fun hsl => ?_⟩
    · refine RSl.at1 (w0 := w0) (σ := s2) hwr (j := 1) (x := bb) rfl fun g5 hg5 _ => ?_
      rw [hg5]
      refine spec_l1Cut (c := 47) (by omega) fun pv PF s3 k3 op fp => ?_
      refine strs_tail op (cutS_pos 47 bb) fun pv' PF' hsub op' => ?_
      rw [pVal1 (OSl.one' op'), pVal_2 (OSl.one' op') rfl]
      have ho3 := ho2.frame (ok_mk w0) (k3.but_at fun b hb => (ho2.dom (ok_mk w0) b hb).2)
      have hol3 := hol2.frame (ok_str w0) (k3.but_at fun b hb => (hol2.dom (ok_str w0) b hb).2)
      refine ho3.one (ok_mk w0) (f := PF') (y := ((cutS 47 bb).drop 1, decide (a = subT))) ⟨pv', rfl, op'⟩ (fun j hj hj' => (ho2.dom (ok_mk w0) j hj').2 (fp j (hsub j hj))) (by omega) (by omega) fun v4 F4 s4 k4 o4 f4 => ?_
      rw [pBin_add (by omega)]
      rw [if_neg (show ¬ bb = slashT from hsl)] at hsome
      refine hL _ _ (m - 1) (by omega) ⟨i + 1, v4, F4, _, by omega, by omega, k4.old (K2.trans k3) hF, hol3.frame (ok_str w0) (k4.at (fun b hb => (hol3.dom (ok_str w0) b hb).2) hdl), fun j hj hj' => ?_, o4, by simp [hbl], fun j hj => ?_, ?_, by simp⟩
      · rcases f4 j hj' with h | h | h
        · exact hdl j hj h
        · exact (hol2.dom (ok_str w0) j hj).2 (fp j (hsub j h))
        · exact (hol3.dom (ok_str w0) j hj).2 h
      · rcases f4 j hj with h | h | h
        · exact hF j h
        · exact none_atK K2 (fp j (hsub j h))
        · exact none_atK (K2.trans k3) h
      · rw [List.take_add_one, hx]; exact optAll_snoc hopt hsome
    · rw [pVal_2 rfl rfl]
      have hsl : bb = slashT := Decidable.not_not.1 hsl
      refine ho2.one (ok_mk w0) (f := []) (y := ([], decide (a = subT))) ⟨_, rfl, nil_pathK⟩ (by simp) (by omega) (by omega) fun v4 F4 s4 k4 o4 f4 => ?_
      rw [pBin_add (by omega)]
      rw [if_pos hsl] at hsome
      refine hL _ _ (m - 1) (by omega) ⟨i + 1, v4, F4, _, by omega, by omega, k4.old K2 hF, hol2.frame (ok_str w0) (k4.at (fun b hb => (hol2.dom (ok_str w0) b hb).2) hdl), fun j hj hj' => ?_, o4, by simp [hbl], fun j hj => ?_, ?_, by simp⟩
      · rcases f4 j hj' with h | h | h
        · exact hdl j hj h
        · cases h
        · exact (hol2.dom (ok_str w0) j hj).2 h
      · rcases f4 j hj with h | h | h
        · exact hF j h
        · cases h
        · exact none_atK K2 h
      · rw [List.take_add_one, hx]; exact optAll_snoc hopt hsome

theorem impl_linesOf (mx : MaxL w0) {text : ByteArray} (hs : text.size ≤ 1048576) {R : Value → Vw → Prop} (hR : ∀ v σ', Keeps σ σ' → RSl 1 RS (Av.get w0 σ') v ((cutS 10 text).take ((cutS 10 text).length - 1)) → R v σ') : AC Tryz.prog w0 n_impl_linesOf [.string text] σ R := by
  refine ac_impl_linesOf ?_
  unfold vc_impl_linesOf
  have hcl := cutS_len 10 text
  have hcp := cutS_pos 10 text
  refine strings_Split mx (c := 10) (by omega) fun v F s k o f => ?_
  have hr := o.rel (ok_str w0)
  rw [hr.len, pBin_sub (by omega)]
  refine hr.slice (l := 0) (u := (cutS 10 text).length - 1) rfl (by show some _ = some _; congr 1; omega) (by omega) (by omega) fun v' hv' => ?_
  rw [List.drop_zero] at hv'
  exact hR v' s k hv'

theorem impl_pathRead (mx : MaxL w0) {t : ByteArray} (hs : t.size ≤ 1048576) {R : Value → Vw → Prop} (hR : ∀ v F σ', Keeps σ σ' → OStrs w0 σ' F v (pathI t) → (∀ b, b ∈ F → σ b = none) → R v σ') : AC Tryz.prog w0 n_impl_pathRead [.string t] σ R := by
  refine ac_impl_pathRead ?_
  unfold vc_impl_pathRead
  have hts := trimB_size t
  refine strings_TrimPrefix (by omega) ?_
  show pBin Tryz.prog 9 .eql (.string (trimB t)) (.string ⟨#[]⟩) _
  rw [pBin_seq, pIf_d]
  refine ⟨fun h => ?_, fun h => ?_⟩
  · rw [pathI, if_pos (show trimB t = nilT from h)] at hR
    intro b h1 h2
    exact hR _ [b] _ (Keeps.put h2) (OAcc.new (O := OStr) h1).osl fun i hi => by rw [List.mem_singleton.1 hi]; exact h2
  · rw [pathI, if_neg (show ¬ trimB t = nilT from h)] at hR
    exact strings_Split mx (c := 47) (by omega) fun v F s k o f => hR v F s k o f

theorem impl_TrailRead (mx : MaxL w0) {text : ByteArray} (hs : text.size ≤ 1048576) {R : Value → Vw → Prop} (hR : OutR w0 σ (readI text) R) : AC Tryz.prog w0 n_impl_TrailRead [.string text] σ R := by
  refine ac_impl_TrailRead ?_
  unfold vc_impl_TrailRead
  intro b h1 h2
  have kb : Keeps σ (σ.put b ⟨t_impl_Mark, [], 0, (0, 0)⟩) := Keeps.put h2
  have hb0 : ∀ i, i ∈ [b] → σ i = none := fun i hi => by rw [List.mem_singleton.1 hi]; exact h2
  have hcl := cutS_len 10 text
  have new := OAcc.new (w0 := w0) (σ := σ) (ety := t_impl_Mark) (n := 2) (O := OMk w0) h1
  refine impl_linesOf mx hs fun lv s1 k1 ol => ?_
  have K1 := kb.trans k1
  have new1 := new.frame (ok_mk w0) (k1.but_at fun b hb => (new.dom (ok_mk w0) b hb).2)
  have hpar : parI text = ((cutS 10 text).take ((cutS 10 text).length - 1)).map mI := rfl
  have hmem : ∀ l, l ∈ (cutS 10 text).take ((cutS 10 text).length - 1) → l.size ≤ 1048576 := fun l hl => by
    have := cutS_mem (List.mem_of_mem_take hl); omega
  have hlen : ((cutS 10 text).take ((cutS 10 text).length - 1)).length ≤ 1048577 := by rw [List.length_take]; omega
  generalize hL0 : (cutS 10 text).take ((cutS 10 text).length - 1) = lines at ol hpar hmem hlen
  rw [ol.len]
  refine loop_rule (m := lines.length) (fun m l s => ∃ (i : Nat) (v : Value) (F : List Nat), m + i = lines.length ∧ Keeps σ s ∧ RSl 1 RS (Av.get w0 s) lv lines ∧ OAcc w0 t_impl_Mark 2 (OMk w0) s F v ((lines.take i).map mI) ∧ (∀ j, j ∈ F → σ j = none) ∧
      l = [.string text, v, lv, .int .i64 (lines.length : Nat), .int .i64 (i : Nat)]) ?_
    ⟨0, _, [b], by omega, K1, ol, by simpa using new1, hb0, rfl⟩
  rintro m l s L ⟨i, v, F, hm, ks, hol, ho, hF, rfl⟩ hL
  simp only [vget, List.getD_cons_zero, List.getD_cons_succ]
  rw [pBin_lt, pIf_d]
  refine ⟨fun hi => ?_, fun hi => ?_⟩
  · have hx := List.getElem?_eq_getElem (show i < lines.length by omega)
    generalize hxi : lines[i]'(by omega) = line at hx
    have hlsz := hmem line (List.mem_of_getElem? hx)
    refine RSl.at1 hol hx fun g hg hgs => ?_
    rw [hg]
    have hcut := cut_len 32 (bl line)
    rw [size_bl] at hcut
    refine strings_Cut mx (c := 32) (by omega) ?_
    rw [pExtract_s rfl, pExtract_s rfl, pExtract_s rfl]
    refine impl_pathRead mx (by rw [size_ofL]; omega) fun pv PF s2 k2 op fp => ?_
    show pBin Tryz.prog 9 .eql (.string (ofL (Lib.cut (bl line) [32]).1)) (.string subT) _
    rw [pBin_seq, pVal1 (OSl.one' op), pVal1 rfl, pVal_2 (OSl.one' op) rfl]
    have ho2 := ho.frame (ok_mk w0) (k2.but_at fun b hb => (ho.dom (ok_mk w0) b hb).2)
    refine ho2.oneX (ok_mk w0) (f := PF) (y := mI line) ⟨pv, rfl, op⟩ (fun j hj hj' => (ho.dom (ok_mk w0) j hj').2 (fp j hj)) (by rw [List.length_map, List.length_take]; omega) (by omega) fun v4 F4 s4 hext k4 o4 f4 => ?_
    rw [pBin_add (by omega)]
    have K2 := ks.trans k2
    refine hL _ _ (m - 1) (by omega) ⟨i + 1, v4, F4, by omega, k4.old K2 hF, (hol.mono k2.le fun _ _ h => h).mono (fun a u h => get_ext hext h) fun _ _ h => h, ?_, fun j hj => ?_, by simp⟩
    · rw [List.take_add_one, hx, Option.toList_some, List.map_append]; exact o4
    · rcases f4 j hj with h | h | h
      · exact hF j h
      · exact none_atK ks (fp j h)
      · exact none_atK K2 h
  · have e : i = lines.length := by omega
    subst e
    rw [List.take_length, ← hpar] at ho
    have hrel := ho.osl.rel (ok_mk w0)
    have hr : readI text = if trailOk (parI text) = true ∧ marksX (parI text) = text then (parI text, true) else ([], false) := rfl
    show AC Tryz.prog w0 n_impl_TrailOk [v] s _
    refine impl_TrailOk hrel ?_
    rw [pUn_not, pIf_b]
    refine ⟨fun hn => ?_, fun hn => ?_⟩
    · have hn : trailOk (parI text) = false := by simpa using hn
      rw [hr, if_neg (by rw [hn]; simp)] at hR
      exact read_none hR ks
    · have hn : trailOk (parI text) = true := by simpa using hn
      have hsm := ok_small hn
      refine impl_TrailShow hrel (by omega) ?_
      rw [showM, if_pos hn, pBin_sne, pIf_d]
      refine ⟨fun hne => ?_, fun he => ?_⟩
      · rw [hr, if_neg (fun h => hne h.2)] at hR
        exact read_none hR ks
      · rw [hr, if_pos ⟨hn, Decidable.not_not.1 he⟩] at hR
        exact hR v F s ks ho.osl hF

end
end Go.Proofs.YtkbhjejalkbogaaGreatDoor

/- The law TrailNone: a tree against itself; a trail's text that is spoilt. -/
set_option linter.unusedVariables false
set_option linter.unusedSimpArgs false
set_option maxRecDepth 20000
namespace Go.Proofs.YtkbhjejalkbogaaGreatDoor
open Go Go.Av Go.RowKit

theorem look_self : ∀ (n : Nat) (ms : List Mk) (ps : List ByteArray) (a : Option Tr), fineO n a → lookE n ms ps a a = []
  | 0, _, _, _, _ => rfl
  | n + 1, _, _, none, _ => rfl
  | n + 1, ms, ps, some x, h => by
    have hx : fineT (n + 1) x := h x rfl
    have hp : partE ps x x = [] := by unfold partE; rw [if_pos rfl, if_pos rfl]; rfl
    have hw : ∀ (n : Nat) (ps : List ByteArray) (a : Option Tr), fineO n a → walkE n ps a a = [] := by
      intro n
      induction n with
      | zero => intros; rfl
      | succ n ih =>
        intro ps a ha
        cases a with
        | none => rfl
        | some x =>
          have hx : fineT (n + 1) x := ha x rfl
          have hp : partE ps x x = [] := by unfold partE; rw [if_pos rfl, if_pos rfl]; rfl
          simp only [walkE]
          rw [if_pos trivial, hp, mrg_kids hx hx, List.map_map, List.nil_append]
          refine List.flatten_eq_nil_iff.2 fun l hl' => ?_
          obtain ⟨nm, hnm, rfl⟩ := List.mem_map.1 hl'
          exact ih _ _ (kid_fineT hx nm)
    by_cases hu : underB ms ps = true
    · simp only [lookE]; rw [if_pos trivial, if_pos hu]; exact hw _ _ _ h
    · have hu' : underB ms ps = false := by simpa using hu
      rw [(lookE_names hx hx rfl hu').1, hp, ite_self, List.nil_append]
      refine List.flatten_eq_nil_iff.2 fun l hl' => ?_
      obtain ⟨nm, hnm, rfl⟩ := List.mem_map.1 hl'
      unfold lookW
      split
      · exact look_self n ms _ _ (kid_fineT hx nm)
      · rfl
theorem diffM_self {n : Nat} {x : Tr} {ms : List Mk} : (diffM n n x x ms).1 = [] := by
  unfold diffM
  split
  · rename_i h
    obtain ⟨_, fx, _⟩ := ok_fineT h.1.1.1
    exact look_self 5 ms [] (some x) fun z hz => by cases hz; exact fx
  · rfl
theorem show_ok {ms : List Mk} (h : trailOk ms = true) : showM ms = marksX ms := by rw [showM, if_pos h]
theorem show_no {ms : List Mk} (h : ¬ trailOk ms = true) : showM ms = ⟨#[]⟩ := by rw [showM, if_neg h]
theorem show_size (ms : List Mk) : (showM ms).size ≤ 8000 := by
  by_cases h : trailOk ms = true
  · rw [show_ok h]
    have h1 := marksX_size (ms := ms) ms.length
    rw [List.take_length] at h1
    have := ok_small h
    omega
  · rw [show_no h]; exact Nat.zero_le _
theorem read_back {ms : List Mk} (h : trailOk ms = true) : readI (marksX ms) = (ms, true) := by
  unfold readI
  rw [(back h).1, if_pos ⟨h, rfl⟩]
theorem read_show {text : ByteArray} (h : (readI text).2 = true) : showM (readI text).1 = text := by
  unfold readI at h ⊢
  split
  · rename_i hc
    simp only
    rw [show_ok hc.1, hc.2]
  · rename_i hc
    rw [if_neg hc] at h; cases h

section
variable {w0 : World} {σ : Vw}

theorem spec_ShowAny {v : Value} {ms : List Mk} (h : RSl 2 RMk (Av.get w0 σ) v ms) {R : Value → Vw → Prop} (hR : R (.string (showM ms)) σ) : AC Tryz.prog w0 n_spec_TrailShow [v] σ R := by
  by_cases hok : trailOk ms = true
  · exact spec_TrailShow h (by have := ok_small hok; omega) hR
  · refine ac_spec_TrailShow ?_
    unfold vc_spec_TrailShow
    refine spec_TrailOk h ?_
    rw [show_no hok] at hR
    rw [pUn_not, pIf_b]
    exact ⟨fun _ => hR, fun hn => absurd (by simpa using hn) hok⟩
theorem impl_ShowAny {v : Value} {ms : List Mk} (h : RSl 2 RMk (Av.get w0 σ) v ms) {R : Value → Vw → Prop} (hR : R (.string (showM ms)) σ) : AC Tryz.prog w0 n_impl_TrailShow [v] σ R := by
  by_cases hok : trailOk ms = true
  · exact impl_TrailShow h (by have := ok_small hok; omega) hR
  · refine ac_impl_TrailShow ?_
    unfold vc_impl_TrailShow
    refine impl_TrailOk h ?_
    rw [show_no hok] at hR
    rw [pUn_not, pIf_b]
    exact ⟨fun _ => hR, fun hn => absurd (by simpa using hn) hok⟩

theorem spec_DrawTrailCovers {u : Value} {bs : List Nat} (h : Bytes w0 u bs) {R : Value → Vw → Prop} (hR : OutT2M w0 σ R) : AC Tryz.prog w0 n_spec_DrawTrailCovers [u] σ R := by
  refine ac_spec_DrawTrailCovers ?_
  unfold vc_spec_DrawTrailCovers
  refine spec_l1Open h fun b s1 hrd1 hd1 hb1 => ?_
  refine spec_l13Both hrd1 (by omega) fun es x es' y v ms s2 hrd2 k2 hx hxs hy hys hv hvs => ?_
  have hx0 := hx
  have hy0 := hy
  obtain ⟨f0, f1, f2, f3, f4, rfl, hp5⟩ := hx.shape
  obtain ⟨g0, g1, g2, g3, g4, rfl, hp6⟩ := hy.shape
  rw [pExtract_s rfl, pExtract_s rfl, pExtract_s rfl, hp5, hp6]
  simp only [cellOf_agg, List.getD_cons_zero, List.getD_cons_succ]
  exact hR _ x _ y v ms s2 (draw_keeps hd1 k2) (mono_rt _ _ _ _ _ del_le hx0) hxs (mono_rt _ _ _ _ _ del_le hy0) hys (hv.mono del_le fun _ _ => mono_mk del_le) hvs
theorem spec_DrawTrailShow {u : Value} {bs : List Nat} (h : Bytes w0 u bs) {R : Value → Vw → Prop} (hR : ∀ v ms s, Keeps σ s → RSl 2 RMk (Av.get w0 s) v ms → smallM 8 ms → R v s) : AC Tryz.prog w0 n_spec_DrawTrailShow [u] σ R := by
  refine ac_spec_DrawTrailShow ?_
  unfold vc_spec_DrawTrailShow
  refine spec_l1Open h fun b s1 hrd1 hd1 hb1 => ?_
  refine spec_l4Tree hrd1 (by omega) fun es x s2 hrd2 k2 hx hxs => ?_
  refine spec_l13Any hrd2 (by omega) hx (by omega) fun v ms s3 hrd3 k3 hv hvs => ?_
  exact hR v ms s3 (draw_keeps hd1 (k2.trans k3)) (hv.mono del_le fun _ _ => mono_mk del_le) hvs

/-- A text that is cut in two, with one of some texts between. -/
theorem text_cut {b p k : Nat} {t : ByteArray} {xs : List ByteArray} (h : RD w0 σ b p) (hp : p ≤ 1000000) (ht : t.size ≤ 100000) (hx : 0 < xs.length ∧ xs.length ≤ 1000) (hsz : ∀ x, x ∈ xs → x.size ≤ 1000) (hk : xs.length = k) {cells : List Value} (hc : cells = xs.map Value.string) {R : Value → Vw → Prop}
    (hR : ∀ t' s, t'.size ≤ 102000 → RD w0 s b (p + 2) → Keeps (σ.del b) (s.del b) → R (.string t') s) :
    pLenS (.string t) (fun v11 => pBin Tryz.prog 3 .add v11 (.int .i64 1) (fun v12 => AC Tryz.prog w0 n_p_spec_l1Rd_pick [ptr b, v12] σ (fun v13 s14 => pSliceStr (.string t) none (some v13) (fun v15 => pSliceStr (.string t) (some v13) none (fun v16 => pNew w0 t_string cells s14 (fun n17 s18 => AC Tryz.prog w0 n_p_spec_l1Rd_of [ptr b, .slice (some (Addr.mk n17 0 none)) k k] s18 (fun v19 s20 => pBin Tryz.prog t_string .add v15 v19 (fun v21 => pBin Tryz.prog t_string .add v21 v16 (fun v22 => R v22 s20))))))))) := by
  rw [pLenS_s, pBin_add (by omega), show ((t.size : Nat) : Int) + 1 = ((t.size + 1 : Nat) : Int) by omega]
  refine spec_pick h (by omega) (by omega) fun j s1 hj hrd1 hd1 _ => ?_
  have k1 : Keeps (σ.del b) (s1.del b) := by rw [hd1]; exact Keeps.refl _
  refine pSliceStr_s (l := 0) (h := j) rfl rfl (by omega) ?_
  refine pSliceStr_s (l := j) (h := t.size) rfl rfl (by omega) ?_
  refine of_lit (xs := xs) hrd1 (by omega) hx (fun x hx => by have := hsz x hx; omega) hk hc fun x s4 hx' hrd4 k4 => ?_
  have hxs := hsz x hx'
  have e1 : ∀ a c : Int, (t.extract a.toNat c.toNat).size ≤ t.size := fun a c => by rw [ByteArray.size_extract]; omega
  generalize e2 : t.extract (0 : Int).toNat (j : Int).toNat = y
  generalize e3 : t.extract (j : Int).toNat (t.size : Int).toNat = z
  have hy : y.size ≤ t.size := by rw [← e2]; exact e1 _ _
  have hz : z.size ≤ t.size := by rw [← e3]; exact e1 _ _
  have hyz : y.size + z.size ≤ t.size := by
    rw [← e2, ← e3, ByteArray.size_extract, ByteArray.size_extract]; omega
  rw [pBin_cat (by omega), pBin_cat (by rw [ByteArray.size_append]; omega)]
  exact hR _ s4 (by rw [ByteArray.size_append, ByteArray.size_append]; omega) hrd4 (k1.trans k4)
/-- A text with one of some texts behind it. -/
theorem text_end {b p k : Nat} {t : ByteArray} {xs : List ByteArray} (h : RD w0 σ b p) (hp : p ≤ 1000000) (ht : t.size ≤ 100000) (hx : 0 < xs.length ∧ xs.length ≤ 1000) (hsz : ∀ x, x ∈ xs → x.size ≤ 1000) (hk : xs.length = k) {cells : List Value} (hc : cells = xs.map Value.string) {R : Value → Vw → Prop}
    (hR : ∀ t' s, t'.size ≤ 102000 → RD w0 s b (p + 2) → Keeps (σ.del b) (s.del b) → R (.string t') s) :
    pNew w0 t_string cells σ (fun n17 s18 => AC Tryz.prog w0 n_p_spec_l1Rd_of [ptr b, .slice (some (Addr.mk n17 0 none)) k k] s18 (fun v19 s20 => pBin Tryz.prog t_string .add (.string t) v19 (fun v21 => R v21 s20))) := by
  refine of_lit (xs := xs) h (by omega) hx (fun x hx => by have := hsz x hx; omega) hk hc fun x s4 hx' hrd4 k4 => ?_
  have hxs := hsz x hx'
  rw [pBin_cat (by omega)]
  exact hR _ s4 (by rw [ByteArray.size_append]; omega) (hrd4.more (by omega)) k4

theorem spec_DrawTrailRead {u : Value} {bs : List Nat} (h : Bytes w0 u bs) {R : Value → Vw → Prop} (hR : ∀ t s, t.size ≤ 102000 → Keeps σ s → R (.string t) s) : AC Tryz.prog w0 n_spec_DrawTrailRead [u] σ R := by
  refine ac_spec_DrawTrailRead ?_
  unfold vc_spec_DrawTrailRead
  refine spec_l1Open h fun b s1 hrd1 hd1 hb1 => ?_
  refine spec_l4Tree hrd1 (by omega) fun es x s2 hrd2 k2 hx hxs => ?_
  refine spec_l13Trail hrd2 (by omega) hx (by omega) fun v ms s3 hrd3 k3 hv hvs => ?_
  refine spec_ShowAny (hv.mono del_le fun _ _ => mono_mk del_le) ?_
  have hsz := show_size ms
  generalize showM ms = t at hsz
  refine spec_pick (n := 4) hrd3 (by omega) (by omega) fun j s4 hj hrd4 hd4 _ => ?_
  have k4 : Keeps (s3.del b) (s4.del b) := by rw [hd4]; exact Keeps.refl _
  have K4 := (k2.trans k3).trans k4
  have hpv : ∀ (x : ByteArray) (A : Prop), pVal false 1 (.string x) A ↔ A := fun x A => pVal1 rfl
  have fin : ∀ t' s, t'.size ≤ 102000 → RD w0 s b (0 + 700 + 300 + 1 + 2) → Keeps (s4.del b) (s.del b) → R (.string t') s := fun t' s h1 _ h2 => hR t' s h1 (draw_keeps hd1 (K4.trans h2))
  rw [pBin_eq, pIf_d]
  refine ⟨fun _ => ?_, fun _ => ?_⟩
  · simp only [hpv]
    exact text_cut (xs := [(⟨#[32]⟩ : ByteArray), ⟨#[47]⟩, ⟨#[10]⟩, ⟨#[97]⟩, ⟨#[115, 117, 98, 32]⟩]) hrd4 (by omega) (by omega) (by simp) (fun x hx => by simp at hx; rcases hx with rfl | rfl | rfl | rfl | rfl <;> decide) rfl rfl fin
  · rw [pBin_eq, pIf_d]
    refine ⟨fun _ => ?_, fun _ => fin t s4 (by omega) (hrd4.more (by omega)) (Keeps.refl _)⟩
    simp only [hpv]
    exact text_end (xs := [(⟨#[97, 116, 32, 47, 10]⟩ : ByteArray), ⟨#[115, 117, 98, 32, 47, 10]⟩, ⟨#[97, 116, 32, 47, 122, 122, 10]⟩, ⟨#[97, 116, 32, 122, 122, 10]⟩, ⟨#[97, 116, 32, 47, 122, 122]⟩, ⟨#[115, 117, 98, 32, 47, 122, 122, 47, 10]⟩, ⟨#[97, 116, 32, 47, 122, 122, 32, 10]⟩, ⟨#[119, 104, 97, 116, 32, 47, 122, 122, 10]⟩]) hrd4 (by omega) (by omega) (by simp) (fun x hx => by simp at hx; rcases hx with rfl | rfl | rfl | rfl | rfl | rfl | rfl | rfl <;> decide) rfl rfl fin

set_option maxHeartbeats 4000000 in
theorem law_TrailNone (mx : MaxL w0) {u u' : Value} {bs bs' : List Nat} (h : Bytes w0 u bs) (h' : Bytes w0 u' bs') {R : Value → Vw → Prop} (hR : ∀ s, R (.bool true) s) : AC Tryz.prog w0 n_laws_FnTrailNone [u, u'] σ R := by
  refine ac_laws_FnTrailNone ?_
  unfold vc_laws_FnTrailNone cs_laws_FnTrailNone_1
  rw [h.len, pBin_gt, pIf_d]
  refine ⟨fun _ => hR _, fun _ => ?_⟩
  rw [h'.len, pBin_gt, pIf_d]
  refine ⟨fun _ => hR _, fun _ => ?_⟩
  refine spec_DrawTrailCovers h fun es x es' y v ms s1 k1 hx hxs hy hys hv hvs => ?_
  have hx0 := hx
  obtain ⟨f0, f1, f2, f3, f4, rfl, hp5⟩ := hx.shape
  obtain ⟨g0, g1, g2, g3, g4, rfl, hp6⟩ := hy.shape
  rw [pExtract_s rfl, pExtract_s rfl, pExtract_s rfl, hp5, hp6]
  simp only [cellOf_agg, List.getD_cons_zero, List.getD_cons_succ]
  have hcx : cntT 16 x ≤ 1000000000000 := Nat.le_trans (cnt_le 16 x) (by omega)
  have tx : ∀ {s : Vw}, Keeps s1 s → RT 16 (Av.get w0 s) _ x := fun k => mono_rt _ _ _ _ _ k.le hx0
  have tv : ∀ {s : Vw}, Keeps s1 s → RSl 2 RMk (Av.get w0 s) v ms := fun k => hv.mono k.le fun _ _ => mono_mk k.le
  refine impl_TrailDiff (tx (Keeps.refl _)) (tx (Keeps.refl _)) (tv (Keeps.refl _)) hcx hcx fun v3 F3 s3 k3 o3 _ => ?_
  rw [pExtract_s rfl, pExtract_s rfl]
  refine spec_TrailDiff (tx k3) (tx k3) (tv k3) hcx hcx fun v4 F4 s4 k4 o4 _ => ?_
  have K4 := k3.trans k4
  rw [pExtract_s rfl, pExtract_s rfl]
  refine impl_TrailDiff (tx K4) (tx K4) (tv K4) hcx hcx fun v5 F5 s5 k5 o5 _ => ?_
  have K5 := K4.trans k5
  rw [pExtract_s rfl, pExtract_s rfl]
  rw [(o3.rel (ok_en w0)).len, diffM_self, pBin_ne, pIf_d]
  refine ⟨fun h => absurd rfl h, fun _ => ?_⟩
  rw [pBin_ne, pIf_d]
  refine ⟨fun h => absurd rfl h, fun _ => ?_⟩
  refine spec_DrawTrailRead h' fun t s6 ht k6 => ?_
  refine impl_TrailRead mx (by omega) fun v7 F7 s7 k7 o7 _ => ?_
  rw [pExtract_s rfl, pExtract_s rfl]
  refine spec_TrailRead (by omega) fun v8 F8 s8 k8 o8 _ => ?_
  rw [pExtract_s rfl, pExtract_s rfl]
  rw [read_same] at o8
  have eb : ∀ (p q : Bool) (K : Value → Prop), pBin Tryz.prog 4 .neq (.bool p) (.bool q) K ↔ K (.bool !(p == q)) := fun p q K => pBin_b (by kernel_rfl) rfl
  rw [eb, read_same, pIf_b]
  refine ⟨fun h => by simp at h, fun _ => ?_⟩
  have r7 := (o7.rel (ok_mk w0)).mono k8.le fun _ _ => mono_mk k8.le
  refine wuMarks r7 (o8.rel (ok_mk w0)) ?_
  rw [decide_eq_true rfl, pUn_not, pIf_b]
  refine ⟨fun h => by simp at h, fun _ => ?_⟩
  have tail : AC Tryz.prog w0 n_spec_DrawTrailShow [u] s8 (fun v41 s42 => AC Tryz.prog w0 n_impl_TrailShow [v41] s42 (fun v43 s44 => AC Tryz.prog w0 n_impl_TrailRead [v43] s44 (fun v45 s46 => pExtract v45 0 (fun v47 => pExtract v45 1 (fun v48 => AC Tryz.prog w0 n_spec_TrailShow [v41] s46 (fun v49 s50 => pBin Tryz.prog t_string .eql v43 v49 (fun v51 => pIf v51 (AC Tryz.prog w0 n_spec_TrailOk [v41] s50 (fun v52 s53 => pUn UnOp.not v52 (fun v54 => pIf v54 (pBin Tryz.prog t_string .eql v43 (.string ({ data := #[] })) (fun v55 => pIf v55 (R (.bool true) s53) (pIf v48 (AC Tryz.prog w0 n_laws_wuMarks [v47, v41] s53 (fun v56 s57 => R v56 s57)) (R (.bool false) s53)))) (pIf v48 (AC Tryz.prog w0 n_laws_wuMarks [v47, v41] s53 (fun v58 s59 => R v58 s59)) (R (.bool false) s53))))) (R (.bool false) s50)))))))) := by
    refine spec_DrawTrailShow h fun v9 ms9 s9 k9 h9 hs9 => ?_
    refine impl_ShowAny h9 ?_
    have hsz := show_size ms9
    refine impl_TrailRead mx (by omega) fun v10 F10 s10 k10 o10 _ => ?_
    rw [pExtract_s rfl, pExtract_s rfl]
    have h10 := h9.mono k10.le fun _ _ => mono_mk k10.le
    refine spec_ShowAny h10 ?_
    rw [pBin_seq, pIf_d]
    refine ⟨fun _ => ?_, fun h => absurd rfl h⟩
    refine spec_TrailOk h10 ?_
    rw [pUn_not, pIf_b]
    refine ⟨fun hno => ?_, fun hok => ?_⟩
    · have hno : ¬ trailOk ms9 = true := by simpa using hno
      rw [show_no hno, pBin_seq, pIf_d]
      exact ⟨fun _ => hR _, fun h => absurd rfl h⟩
    · have hok : trailOk ms9 = true := by simpa using hok
      rw [show_ok hok, read_back hok] at o10
      rw [show_ok hok, read_back hok, pIf_b]
      refine ⟨fun _ => ?_, fun h => by cases h⟩
      refine wuMarks (o10.rel (ok_mk w0)) h10 ?_
      rw [decide_eq_true rfl]
      exact hR _
  rw [pIf_b]
  refine ⟨fun hy => ?_, fun _ => tail⟩
  refine impl_ShowAny r7 ?_
  rw [read_show hy, pBin_sne, pIf_d]
  exact ⟨fun h => absurd rfl h, fun _ => tail⟩
end
end Go.Proofs.YtkbhjejalkbogaaGreatDoor

/- The law FnTrailNone holds: it returns true, and the input reads as it did. No condition. -/
namespace Go.Proofs.YtkbhjejalkbogaaGreatDoor.fnTrailNone
open Go.ChangeShapes Go.WideShapes Go.ChangeAt Go.RowKit Go.Av
set_option linter.unusedVariables false
set_option linter.unusedSimpArgs false
theorem own : ownKnob Tryz.prog.godebug = none := by kernel_rfl
theorem laidOut : laidOutB Tryz.prog = true := by kernel_rfl
abbrev laidL : List (String × DataW Unit) := [("unicode/utf8.acceptRanges", Rows.laid_unicode_utf8_acceptRanges), ("unicode/utf8.first", Rows.laid_unicode_utf8_first)]
theorem max_of {W : World} (h : W.ShapedOpen Tryz.prog) : MaxL W := by
  obtain ⟨m, hm⟩ := cell_of_shapedOpen_int (g := 0) (t := 3) (zero := #[.int .i64 0]) (k := .i64) h (of_decide_eq_true (by kernel_rfl)) (by kernel_rfl) rfl (by kernel_rfl) (by kernel_rfl) (by kernel_rfl)
  refine ⟨m, fun w hw => ?_⟩
  have hlt : (0 : Nat) < W.heap.size := by
    rcases Nat.lt_or_ge 0 W.heap.size with h' | h'
    · exact h'
    · simp [World.cell?, Array.getElem?_eq_none h'] at hm
  rw [← hm]
  exact hw.cell hlt
/-- The wrap with a condition of its own, the world's shape kept. -/
theorem wrap {H : Type} {enc : TypeId × Value → H} {a : Assume} {C : Checked} {os : Os} {f : FuncId} {fn : Func} {s : ChangeSpec} {conds : List PathCond} {apart fresh handsOn again : Bool} {X : World → Array Value → Prop}
    (own : ownKnob C.prog.godebug = none) (started : os.Started) (noInit : C.prog.inits.idxOf? f = none) (hfn : C.prog.funcs[f]? = some fn)
    (witness : ∃ (w : World) (tape : Tape) (i : Input), w.os = os ∧ (w.forCall tape i).Shaped C.prog ∧ i.vars = [] ∧ Input.okWide C.prog (w.forCall tape i) .any w.heap.size f i ∧
      ((s.pre enc C.prog fn conds apart (w.forCall tape i).memory i.args ∧ X (w.forCall tape i).memory i.args) ∧ sizedMet enc C.prog fn (OpenSpec.ofChange s) apart (w.forCall tape i).memory i.args) ∧ a.holds C.prog (lone (Frame.enter C.prog f i.args .normal) [] (w.forCall tape i)))
    (contract : ∀ (W : World) (base : Nat) (args : Array Value) (ds gs : List (DataW H)) (before : List MemPlace),
      (∀ (j : Nat) t v, fn.params[j]? = some t → args[j]? = some v → Value.okWide C.prog W .any base t v) →
      DataW.Whole enc C.prog fn.params.toList s.vars apart W args.toList ds gs before → W.ShapedOpen C.prog →
      Calls C.prog f args W fun e W' => ∃ v, e = .returned v ∧ s.post enc C.prog fn apart fresh handsOn again W args v W') :
    ReturnsInHanded a C os f .any (fun w args => (s.pre enc C.prog fn conds apart w args ∧ X w args) ∧ sizedMet enc C.prog fn (OpenSpec.ofChange s) apart w args) (s.post enc C.prog fn apart fresh handsOn again) := by
  refine returnsInHanded_of_calls own started noInit witness ?_
  intro w tape i _ hsh _ hok hpre hholds
  obtain ⟨_, _, _, fn', hfn', _, _, _, _, hval⟩ := hok
  have e : fn' = fn := Option.some.inj (hfn'.symm.trans hfn)
  subst e
  obtain ⟨⟨⟨ds, gs, before, hw, hc⟩, hx⟩, hz⟩ := hpre
  have hw' := DataW.Whole.of_heap (w' := w.forCall tape i) (by rfl) hw
  refine (contract (w.forCall tape i) w.heap.size i.args ds gs before hval hw' hsh).mono fun e W' ⟨v, he, hp⟩ => ?_
  subst he
  exact ChangeSpec.post_blind hp
set_option maxRecDepth 100000 in
theorem lifted (os : Os) (started : os.Started) (H : Type) (enc : TypeId × Value → H) :
    ReturnsInHanded {} Tryz.checked os 4 .any (fun w args => (Rows.fnTrailNoneSpec.pre enc Tryz.prog Tryz.f4 [] false w args ∧ laidMetH Tryz.prog laidL w) ∧ sizedMet enc Tryz.prog Tryz.f4 (OpenSpec.ofChange Rows.fnTrailNoneSpec) false w args)
      (Rows.fnTrailNoneSpec.post enc Tryz.prog Tryz.f4 false true false false) := by
  refine wrap (C := Tryz.checked) (X := fun w _ => laidMetH Tryz.prog laidL w) own started (by kernel_rfl) Tryz.func4
    (ChangeSpec.witness_shaped (enc := enc) (C := Tryz.checked) (os := os) (X := fun w _ => laidMetH Tryz.prog laidL w) false (World.laidAll Tryz.prog os laidL) #[.slice none 0 0, .slice none 0 0] 8 (World.laidAll_os _ _ _)
      (World.shaped_of_ZipB (by kernel_rfl) (by kernel_rfl)) (by kernel_rfl) (by kernel_rfl) (by kernel_rfl)
      (by rw [MakeChecks.laidMetH_plain _ _ _ (by kernel_rfl)]; exact laidMet_laidAll _ (by kernel_rfl) (by kernel_rfl))) ?_
  intro W base args ds gs before hval0 hW hsh
  have hval : ∀ (j : Nat) t v, Tryz.f4.params[j]? = some t → args[j]? = some v → Value.okWide Tryz.prog W .any base t v := hval0
  have hW' := hW
  obtain ⟨p, q, hA0, hV, rfl, hfz, hnd⟩ := hW
  have hA : DataW.TrodAll enc Tryz.prog W 0 (fun _ => true) true Tryz.f4.params.toList args.toList ds p := hA0
  rw [Tryz.params4] at hA hval
  obtain ⟨v0, v1, d0, d1, p0, p1, rfl, rfl, hpp, h0, h1⟩ := trodAll_two hA
  obtain ⟨rfl, rfl⟩ := trodVars_none hV
  obtain ⟨A0, len0, cap0, rfl⟩ := okWide_slice (t := 22) (e := 5) (by kernel_rfl) (hval 0 22 v0 rfl rfl)
  obtain ⟨A1, len1, cap1, rfl⟩ := okWide_slice (t := 22) (e := 5) (by kernel_rfl) (hval 1 22 v1 rfl rfl)
  have h0k := h0
  obtain ⟨fuel0, hf0⟩ := h0
  have h1k := h1
  obtain ⟨fuel1, hf1⟩ := h1
  clear hA0 hval0
  simp only [List.append_nil] at hW'
  have hlt : ∀ x ∈ p, x.block < W.heap.size := fun x hx => by simpa using hW'.lt x hx
  have hargs0 : ∀ (W' : World), Below W.heap.size W W' → DataW.Trod enc Tryz.prog W' 0 (fun b => decide (b < W.heap.size)) true 22 (.slice A0 len0 cap0) d0 p0 :=
    fun W' hn => Below.trod laidOut (by kernel_rfl) (of_decide_eq_true (by kernel_rfl)) h0k hn (fun x hx => hlt x (by rw [hpp]; simp [hx]))
  have hargs1 : ∀ (W' : World), Below W.heap.size W W' → DataW.Trod enc Tryz.prog W' 0 (fun b => decide (b < W.heap.size)) true 22 (.slice A1 len1 cap1) d1 p1 :=
    fun W' hn => Below.trod laidOut (by kernel_rfl) (of_decide_eq_true (by kernel_rfl)) h1k hn (fun x hx => hlt x (by rw [hpp]; simp [hx]))
  obtain ⟨u0, x0, hu0, r0⟩ := open_rsl (t := t_s_uint8) (e := t_uint8) (by kernel_rfl) (by kernel_rfl) open_byte hf0
  have hu0' : u0 = .slice A0 len0 cap0 := by
    have : [Value.slice A0 len0 cap0] = [u0] := hu0
    cases this; rfl
  subst hu0'
  obtain ⟨u1, x1, hu1, r1⟩ := open_rsl (t := t_s_uint8) (e := t_uint8) (by kernel_rfl) (by kernel_rfl) open_byte hf1
  have hu1' : u1 = .slice A1 len1 cap1 := by
    have : [Value.slice A1 len1 cap1] = [u1] := hu1
    cases this; rfl
  subst hu1'
  refine ((law_TrailNone (max_of hsh) (R := fun v _ => v = .bool true) r0 r1 (by intros; rfl)).calls).mono fun e W' ⟨v, σ', he, hv, bel⟩ => ?_
  subst he hv
  have hW'' := hW'
  rw [hpp] at hW''
  exact ⟨_, rfl, _, _, _, [], _, [], hW'', trodAll_mk1 (shut_bool Tryz.underlying4 _), trodAll_mk2 (hargs0 W' bel) (hargs1 W' bel), rfl, bel.frame _, fun h => by cases h⟩
theorem over : Rows.fnTrailNoneRow.holds Tryz.pinned (OpenSpec.ofChange Rows.fnTrailNoneSpec) :=
  OpenClaim.holds_of_wide 4 Tryz.f4 rfl rfl rfl rfl rfl rfl rfl ⟨rfl, rfl, rfl, rfl, rfl⟩ rfl rfl rfl rfl rfl (by kernel_rfl) Tryz.func4 (by kernel_rfl)
    (of_decide_eq_true (by kernel_rfl)) (by unfold Func.isWrapper; first | (rw [if_pos (by decide +kernel)]; kernel_rfl) | (rw [if_neg (by decide +kernel)]; exact ⟨rfl, rfl⟩))
    (fun os started H enc _ => lifted os started H enc)
/-- THE TIED CARD. -/
theorem proved : Rows.FnTrailNoneCardSaid :=
  Claim7.holds_tied_plain_at .later [] [.data, .pinned] true (true, "a7ba1ead57763a82367c7e00e4f6906bf323b97c4fe752a3755fcb77d58aebbf") true
    over (fun _ h => by cases h) (by kernel_rfl) (fun _ h => by cases h) fnTrailNone_row_tie rfl ⟨rfl, rfl⟩ (by kernel_rfl) rfl
    (fun f fn hf hfn => by
      obtain rfl : f = 4 := Option.some.inj ((show Tryz.prog.funcNamed "loop.example/changetrail/laws.FnTrailNone" = some 4 by kernel_rfl).symm.trans hf) |>.symm
      obtain rfl : fn = Tryz.f4 := (Option.some.inj (Tryz.func4.symm.trans hfn)).symm
      exact ⟨by kernel_rfl, fun j t ht => by
        rw [Tryz.params4] at ht
        have hm : t ∈ [22, 22] := by simpa using Array.mem_of_getElem? ht
        have hall : ([22, 22].all fun u => !Tryz.prog.wantsStandIn u) = true := by kernel_rfl
        exact (show Tryz.prog.wantsStandIn t = false by simpa using List.all_eq_true.1 hall t hm)⟩)
    (by kernel_rfl)
end Go.Proofs.YtkbhjejalkbogaaGreatDoor.fnTrailNone
namespace Go.Proofs.YtkbhjejalkbogaaGreatDoor
/-- The row, under a short name, for the claim. -/
theorem fnTrailNone_holds : Rows.FnTrailNoneCardSaid := fnTrailNone.proved
end Go.Proofs.YtkbhjejalkbogaaGreatDoor
