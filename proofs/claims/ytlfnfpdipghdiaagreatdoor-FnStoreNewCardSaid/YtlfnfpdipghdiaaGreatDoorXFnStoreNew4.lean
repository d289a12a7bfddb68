/- The law FnStoreNew holds: it returns true, and the input reads as it did. No condition. This is part 4 of 4 of its proof. -/
import Derived.Test.YtlfnfpdipghdiaaGreatDoorXFnStoreNew3
import Derived.Test.YtlfnfpdipghdiaaGreatDoorRows
import Derived.WalkKit
import Derived.ProofKit
import Derived.OpenShut
import Derived.ShutString
import Derived.ChangeOld
import Derived.Below
import Derived.Carry
import Derived.SizedLaws
import Derived.LaidMore
import Derived.Lay
import Derived.MakeChecks
import Derived.Stop.Joined
import Derived.HandedShaped
import Derived.Shelf.Vars
import Derived.SevenTiedAt
import Derived.Stop.LaidErr
import Derived.LaidLaws
import Derived.Lib.LaidTab
import Derived.WalkSmall
import Derived.Test.YtlfnfpdipghdiaaGreatDoorCards
import Derived.Test.YtlfnfpdipghdiaaGreatDoorTie

/- How a disk is opened, by the program's hand: its readers. -/
set_option linter.unusedVariables false
set_option linter.unusedSimpArgs false
set_option maxRecDepth 20000
namespace Go.Proofs.YtlfnfpdipghdiaaGreatDoor
open Go Go.Av Go.RowKit

section
variable {w0 : World} {σ : Vw}

theorem at1p {v : Value} {xs : List ByteArray} (h : RSl 1 RS (Av.get w0 σ) v xs) {j : Nat} {x : ByteArray} (hj : xs[j]? = some x) {K : Value → (Nat → Value) → Prop} (hK : ∀ (q : Value) (g : Nat → Value), g 0 = .string x → K q g) :
    pIndexAddr 1 v (.int .i64 (j : Nat)) fun p => pLoad w0 1 p σ (K p) := by
  obtain ⟨A, cap, rfl, _, h3⟩ := h
  obtain ⟨a, es, rfl, h5, h6, h7⟩ := h3 j x hj
  obtain ⟨rfl, _⟩ := h7
  have hlt : j < xs.length := (List.getElem?_eq_some_iff.1 hj).1
  refine ⟨a, xs.length, cap, .i64, j, rfl, rfl, by omega, by omega, a.add (j * 1), fun i => .string x, rfl, fun i hi => ?_, hK _ _ rfl⟩
  have e : i = 0 := by omega
  subst e
  rw [add_add, h6 0 (by omega)]; rfl

theorem impl_checkHeadZ (tab : Tab w0) {g n : Int} {R : Value → Vw → Prop} (hg : -9223372036854775808 ≤ g ∧ g ≤ 9223372036854775807) (hn : -9223372036854775808 ≤ n ∧ n ≤ 9223372036854775807) (hR : R (.string (headZ g n)) σ) : AC Tryz.prog w0 n_impl_checkHead [.int .i64 g, .int .i64 n] σ R := by
  refine ac_impl_checkHead ?_
  unfold vc_impl_checkHead
  have h1 := decZ_size hg
  have h2 := decZ_size hn
  refine strconv_Itoa tab hg ?_
  rw [pBin_cat (by show 2 + _ ≤ _; omega), pBin_cat (by rw [ByteArray.size_append]; show 2 + _ + 1 ≤ _; omega)]
  refine strconv_Itoa tab hn ?_
  rw [pBin_cat (by rw [ByteArray.size_append, ByteArray.size_append]; show 2 + _ + 1 + _ ≤ _; omega)]
  exact hR
theorem impl_groupHeadZ (tab : Tab w0) {g k n : Int} {R : Value → Vw → Prop} (hg : -9223372036854775808 ≤ g ∧ g ≤ 9223372036854775807) (hk : -9223372036854775808 ≤ k ∧ k ≤ 9223372036854775807) (hn : -9223372036854775808 ≤ n ∧ n ≤ 9223372036854775807) (hR : R (.string (gheadZ g k n)) σ) : AC Tryz.prog w0 n_impl_groupHead [.int .i64 g, .int .i64 k, .int .i64 n] σ R := by
  refine ac_impl_groupHead ?_
  unfold vc_impl_groupHead
  have h1 := decZ_size hg
  have h2 := decZ_size hk
  have h3 := decZ_size hn
  refine strconv_Itoa tab hg ?_
  rw [pBin_cat (by show 2 + _ ≤ _; omega), pBin_cat (by rw [ByteArray.size_append]; show 2 + _ + 1 ≤ _; omega)]
  refine strconv_Itoa tab hk ?_
  rw [pBin_cat (by rw [ByteArray.size_append, ByteArray.size_append]; show 2 + _ + 1 + _ ≤ _; omega), pBin_cat (by rw [ByteArray.size_append, ByteArray.size_append, ByteArray.size_append]; show 2 + _ + 1 + _ + 1 ≤ _; omega)]
  refine strconv_Itoa tab hn ?_
  rw [pBin_cat (by rw [ByteArray.size_append, ByteArray.size_append, ByteArray.size_append, ByteArray.size_append]; show 2 + _ + 1 + _ + 1 + _ ≤ _; omega)]
  exact hR
theorem impl_piecesN {n s : Int} (h : 0 ≤ n ∧ n ≤ 1000000000000 ∧ 0 < s ∧ s ≤ 1000000) {R : Value → Vw → Prop} (hR : R (.int .i64 ((n + s - 1) / s)) σ) : AC Tryz.prog w0 n_impl_pieces [.int .i64 n, .int .i64 s] σ R := by
  refine ac_impl_pieces ?_
  unfold vc_impl_pieces
  rw [pBin_add (by omega), pBin_sub (by omega), pBin_quo (by omega)]
  exact hR
theorem impl_groupBlocksN {n : Int} {R : Value → Vw → Prop} (hn : 0 ≤ n ∧ n ≤ 1000000000) (hR : R (.int .i64 ((1 + lenB n : Nat) : Int)) σ) : AC Tryz.prog w0 n_impl_groupBlocks [.int .i64 n] σ R := by
  refine ac_impl_groupBlocks ?_
  unfold vc_impl_groupBlocks
  refine impl_piecesN (by omega) ?_
  have e : (1 : Int) + (n + 63 - 1) / 63 = ((1 + lenB n : Nat) : Int) := by unfold lenB; omega
  rw [pBin_add (by omega), e]
  exact hR

theorem impl_head (tab : Tab w0) (mx : MaxL w0) (er : ErrL w0) {v : Value} {B : List ByteArray} (h : RSl 1 RS (Av.get w0 σ) v B) (hB : diskOk B = true) {slot : Nat} (hs : slot < 2) {R : Value → Vw → Prop} (hR : ∀ σ', Keeps σ σ' → R (.tuple ⟨[.int .i64 (foundP (at0 B slot) (slot : Nat)).1, .int .i64 (foundP (at0 B slot) (slot : Nat)).2]⟩) σ') : AC Tryz.prog w0 n_impl_head [.agg ⟨[v]⟩, .int .i64 (slot : Nat)] σ R := by
  refine ac_impl_head ?_
  unfold vc_impl_head
  obtain ⟨hsz, hlen⟩ := diskOk_iff.1 hB
  rw [pVal_1 h.one]
  simp only [cellOf_agg, List.getD_cons_zero]
  have hbk := at0_some (show slot < B.length by omega)
  refine RSl.at1 h hbk fun g hg _ => ?_
  rw [hg]
  have hts := hsz slot
  rw [← found_eq] at hR
  generalize at0 B slot = t at hR hts hbk
  refine strings_SplitA mx (c := 32) (by omega) fun w Fw s1 k1 ow fw => ?_
  have hR := hR s1 k1
  have hv1 := h.mono k1.le fun _ _ h => h
  rw [(ow.osl.rel (ok_str w0)).len, pBin_ne, pIf_d]
  refine ⟨fun h3 => ?_, fun h3 => ?_⟩
  · have e : foundI t (slot : Nat) = (0, 0) := by
      unfold foundI
      split
      · rename_i e; rw [e] at h3; exact absurd rfl h3
      · rfl
    rw [e] at hR; exact hR
  obtain ⟨a, x, n, hW⟩ := list_three (show (cutS 32 t).length = 3 by omega)
  have hxs : x.size ≤ 64 := Nat.le_trans (cutS_mem (c := 32) (s := t) (by rw [hW]; simp)) hts
  have hns : n.size ≤ 64 := Nat.le_trans (cutS_mem (c := 32) (s := t) (by rw [hW]; simp)) hts
  rw [hW] at ow
  have hf : foundI t (slot : Nat) = if headZ (numI x) (numI n) = t ∧ ((1 ≤ numI x ∧ numI x ≤ 99999) ∧ numI x % 2 = (slot : Nat)) ∧ (0 ≤ numI n ∧ numI n ≤ 5760) then (numI x, numI n) else (0, 0) := by
    unfold foundI; rw [hW]
  rw [hf] at hR
  have no : ¬ (headZ (numI x) (numI n) = t ∧ ((1 ≤ numI x ∧ numI x ≤ 99999) ∧ numI x % 2 = (slot : Nat)) ∧ (0 ≤ numI n ∧ numI n ≤ 5760)) → R (.tuple ⟨[.int .i64 0, .int .i64 0]⟩) s1 := fun h => by rw [if_neg h] at hR; exact hR
  refine word_at ow.osl (j := 1) rfl fun g hg => ?_
  refine at1p (ow.osl.rel (ok_str w0)) (j := 2) rfl fun q g' hg' => ?_
  rw [hg]
  refine impl_numRead er (by omega) ⟨(Keeps.refl _).stay, ?_⟩
  rw [hg']
  refine impl_numRead er (by omega) ?_
  refine at1p hv1 hbk fun q g2 hg2 => ?_
  refine impl_checkHeadZ tab numI_le numI_le ⟨(Keeps.refl _).stay, ?_⟩
  rw [hg2, pBin_sne, pIf_d]
  refine ⟨fun h => no fun h' => h h'.1, fun ha => ?_⟩
  have ha : headZ (numI x) (numI n) = t := by simpa using ha
  refine impl_within ?_
  rw [pUn_not, pIf_b]
  refine ⟨fun h => no fun h' => inB_notV h h'.2.1.1, fun hx => ?_⟩
  have hx := inB_yesV (by simpa using hx)
  rw [pBin_rem (by omega), pBin_ne, pIf_d]
  refine ⟨fun h => no fun h' => h h'.2.1.2, fun h2 => ?_⟩
  have h2 : numI x % 2 = (slot : Nat) := by omega
  refine impl_within ?_
  rw [pUn_not, pIf_b]
  refine ⟨fun h => no fun h' => inB_notV h h'.2.2, fun hn => ?_⟩
  have hn := inB_yesV (by simpa using hn)
  rw [if_pos ⟨ha, ⟨hx, h2⟩, hn⟩] at hR
  exact hR

theorem impl_checkText {v : Value} {B : List ByteArray} (h : RSl 1 RS (Av.get w0 σ) v B) (hB : diskOk B = true) {gen : Int} {n : Nat} (hg : 1 ≤ gen ∧ gen ≤ 99999) (hn : n ≤ 1000000) {R : Value → Vw → Prop}
    (hyes : ∀ t, textP B 0 n 90 (areaI gen).toNat ⟨#[]⟩ = some t → R (.tuple ⟨[.string t, .bool true]⟩) σ) (hno : ∀ t, textP B 0 n 90 (areaI gen).toNat ⟨#[]⟩ = none → R (.tuple ⟨[.string t, .bool false]⟩) σ) : AC Tryz.prog w0 n_impl_checkText [.agg ⟨[v]⟩, .int .i64 gen, .int .i64 (n : Nat)] σ R := by
  refine ac_impl_checkText ?_
  unfold vc_impl_checkText
  obtain ⟨hsz, hlen⟩ := diskOk_iff.1 hB
  rw [pVal_1 h.one]
  simp only [cellOf_agg, List.getD_cons_zero]
  have har := area_le (gen := gen) (by omega)
  have ea : areaI gen = (((areaI gen).toNat : Nat) : Int) := by omega
  generalize hA : (areaI gen).toNat = a at hyes hno ea
  generalize hT : textP B 0 n 90 a ⟨#[]⟩ = T at hyes hno
  refine loop_rule (m := 90) (fun m l s => ∃ (i : Nat) (out : ByteArray), s = σ ∧ m + i = 90 ∧ out.size ≤ 64 * i ∧ T = textP B 0 n m (a + i) out ∧ l = [.int .i64 gen, .int .i64 (n : Nat), .string ⟨#[]⟩, .bool false, .string out, .int .i64 (i : Nat), v]) ?_
    ⟨0, ⟨#[]⟩, rfl, by omega, Nat.zero_le _, hT.symm, rfl⟩
  rintro m l s L ⟨i, out, rfl, hm, ho, ht, rfl⟩ hL
  clear hT
  simp only [vget, List.getD_cons_zero, List.getD_cons_succ]
  rw [pLenS_s, pBin_lt, pIf_d]
  refine ⟨fun hlt => ?_, fun hge => ?_⟩
  · rw [pBin_eq, pIf_d]
    refine ⟨fun hi => ?_, fun hi => ?_⟩
    · have e : m = 0 := by omega
      subst e
      refine hno _ ?_
      rw [ht]
      unfold textP
      rw [if_neg (by omega)]
    · obtain ⟨m, rfl⟩ : ∃ k, m = k + 1 := ⟨m - 1, by omega⟩
      unfold textP at ht
      rw [if_pos (show out.size < n by omega)] at ht
      have hx := at0_some (B := B) (i := a + i) (by omega)
      have hxs := hsz (a + i)
      generalize at0 B (a + i) = b at ht hx hxs
      have e1 : areaI gen + (i : Nat) = ((a + i : Nat) : Int) := by omega
      refine impl_areaFirst (by omega) ?_
      rw [pBin_add (by omega), e1]
      refine RSl.at1 h hx fun g hg1 _ => ?_
      rw [hg1, pBin_seq, pIf_d]
      refine ⟨fun hs => ?_, fun hs => ?_⟩
      · refine hno _ ?_
        rw [ht, if_pos (.inl (by rw [hs]; exact Nat.le_refl _))]
      have hb0 : 0 < b.size := by
        rcases Nat.eq_zero_or_pos b.size with e | e
        · exact absurd (ByteArray.size_eq_zero_iff.1 e) hs
        · exact e
      rw [if_neg fun h => by rcases h with h | h <;> omega] at ht
      have eb : b.extract 0 b.size = b := by
        apply bl_inj
        rw [bl_extract, List.drop_zero, Nat.sub_zero, List.take_of_length_le (by rw [size_bl]; omega)]
      rw [eb] at ht
      refine impl_areaFirst (by omega) ?_
      rw [pBin_add (by omega), e1]
      refine RSl.at1 h hx fun g hg1 _ => ?_
      rw [hg1, pBin_cat (by omega), pBin_add (by omega)]
      refine hL _ _ m rfl ⟨i + 1, _, rfl, by omega, by rw [ByteArray.size_append]; omega, ht, rfl⟩
  · show pLenS (.string out) (fun v35 => pBin Tryz.prog 3 .eql v35 (.int .i64 (n : Nat)) (fun v36 => R (.tuple (⟨[.string out, v36]⟩)) s))
    have e : textP B 0 n m (a + i) out = if out.size = n then some out else none := by
      cases m with
      | zero => rfl
      | succ m => unfold textP; rw [if_neg (by omega)]
    rw [e] at ht
    rw [pLenS_s, pBin_eq]
    by_cases hs : out.size = n
    · rw [if_pos hs] at ht
      rw [decide_eq_true (by omega)]
      exact hyes _ ht
    · rw [if_neg hs] at ht
      rw [decide_eq_false (by omega)]
      exact hno _ ht

theorem impl_headLike (tab : Tab w0) (mx : MaxL w0) (er : ErrL w0) {t : ByteArray} (ht : t.size ≤ 64) {gen : Int} {R : Value → Vw → Prop} (hR : ∀ σ', Keeps σ σ' → R (.bool (likeI t gen)) σ') : AC Tryz.prog w0 n_impl_headLike [.string t, .int .i64 gen] σ R := by
  refine ac_impl_headLike ?_
  unfold vc_impl_headLike
  refine strings_SplitA mx (c := 32) (by omega) fun w Fw s1 k1 ow fw => ?_
  have hR := hR s1 k1
  rw [(ow.osl.rel (ok_str w0)).len, pBin_ne, pIf_d]
  refine ⟨fun h4 => ?_, fun h4 => ?_⟩
  · have e : likeI t gen = false := by
      unfold likeI
      split
      · rename_i e; rw [e] at h4; exact absurd rfl h4
      · rfl
    rw [e] at hR; exact hR
  obtain ⟨a, x, y, z, hW⟩ := list_four (show (cutS 32 t).length = 4 by omega)
  have hxs : x.size ≤ 64 := Nat.le_trans (cutS_mem (c := 32) (s := t) (by rw [hW]; simp)) ht
  rw [hW] at ow
  have hl : likeI t gen = decide (a = hT ∧ (decZ (numI x) = x ∧ x.size ≤ 5) ∧ gen ≤ numI x) := by unfold likeI; rw [hW]
  rw [hl] at hR
  have no : ¬ (a = hT ∧ (decZ (numI x) = x ∧ x.size ≤ 5) ∧ gen ≤ numI x) → R (.bool false) s1 := fun h => by rw [decide_eq_false h] at hR; exact hR
  refine word_at ow.osl (j := 0) rfl fun g hg => ?_
  rw [hg, pBin_sne, pIf_d]
  refine ⟨fun h => no fun h' => h h'.1, fun ha => ?_⟩
  have ha : a = hT := by simpa [hT] using ha
  refine word_at ow.osl (j := 1) rfl fun g hg => ?_
  rw [hg]
  refine impl_numRead er (by omega) ?_
  refine at1p (ow.osl.rel (ok_str w0)) (j := 1) rfl fun q g' hg' => ?_
  refine strconv_Itoa tab numI_le ⟨(Keeps.refl _).stay, ?_⟩
  rw [hg', pBin_seq, pIf_d]
  refine ⟨fun hd => ?_, fun hd => no fun h' => hd h'.2.1.1⟩
  refine word_at ow.osl (j := 1) rfl fun g hg => ?_
  rw [hg, pLenS_s, pBin_le, pIf_d]
  refine ⟨fun h5 => ?_, fun h5 => no fun h' => h5 (by have := h'.2.1.2; omega)⟩
  rw [pBin_ge]
  have e : decide (a = hT ∧ (decZ (numI x) = x ∧ x.size ≤ 5) ∧ gen ≤ numI x) = decide (gen ≤ numI x) := decide_eq_decide.2 ⟨fun h => h.2.2, fun h => ⟨ha, ⟨hd, by omega⟩, h⟩⟩
  rw [e] at hR
  exact hR

set_option maxHeartbeats 1000000 in
theorem impl_group (tab : Tab w0) (mx : MaxL w0) (er : ErrL w0) {v : Value} {B : List ByteArray} (h : RSl 1 RS (Av.get w0 σ) v B) (hB : diskOk B = true) {gen : Int} {k a : Nat} (hgen : 1 ≤ gen ∧ gen ≤ 99999) (hk : k ≤ 99999) {R : Value → Vw → Prop}
    (hyes : ∀ g σ', groupI B gen k a = some g → Keeps σ σ' → R (.tuple ⟨[.string g, .bool true]⟩) σ') (hno : ∀ g σ', groupI B gen k a = none → Keeps σ σ' → R (.tuple ⟨[.string g, .bool false]⟩) σ') : AC Tryz.prog w0 n_impl_group [.agg ⟨[v]⟩, .int .i64 gen, .int .i64 (k : Nat), .int .i64 (a : Nat)] σ R := by
  refine ac_impl_group ?_
  unfold vc_impl_group
  obtain ⟨hsz, hlen⟩ := diskOk_iff.1 hB
  rw [pVal_1 h.one]
  simp only [cellOf_agg, List.getD_cons_zero]
  have hg : groupI B gen k a = if 12 ≤ a then none
    else if gheadZ gen k (numI (lastW (at0 B (2 + a)))) = at0 B (2 + a) ∧ (0 ≤ numI (lastW (at0 B (2 + a))) ∧ numI (lastW (at0 B (2 + a))) ≤ 600) ∧ a + (1 + lenB (numI (lastW (at0 B (2 + a))))) ≤ 12 then
      textI B (numI (lastW (at0 B (2 + a)))).toNat (lenB (numI (lastW (at0 B (2 + a))))) (3 + a) ⟨#[]⟩
    else none := rfl
  rw [pBin_ge, pIf_d]
  refine ⟨fun h12 => ?_, fun h12 => ?_⟩
  · rw [if_pos (by omega)] at hg
    exact hno _ σ hg (Keeps.refl _)
  rw [if_neg (by omega)] at hg
  have e1 : (2 : Int) + ((a : Nat) : Int) = ((2 + a : Nat) : Int) := by omega
  rw [pBin_add (by omega), e1]
  have hbk := at0_some (show 2 + a < B.length by omega)
  refine RSl.at1 h hbk fun g hg' _ => ?_
  rw [hg']
  have hts := hsz (2 + a)
  generalize at0 B (2 + a) = t at hg hts hbk
  refine strings_SplitA mx (c := 32) (by omega) fun w Fw s1 k1 ow fw => ?_
  have hv1 := h.mono k1.le fun _ _ h => h
  have hpos := cutS_pos 32 t
  have hlc := cutS_len 32 t
  rw [(ow.osl.rel (ok_str w0)).len, pBin_sub (by omega), show (((cutS 32 t).length : Nat) : Int) - 1 = (((cutS 32 t).length - 1 : Nat) : Int) by omega]
  have hlast : (cutS 32 t)[(cutS 32 t).length - 1]? = some (lastW t) := by
    unfold lastW
    rw [List.getLast?_eq_getElem?, List.getElem?_eq_getElem (show (cutS 32 t).length - 1 < (cutS 32 t).length by omega)]; rfl
  have hls : (lastW t).size ≤ 64 := Nat.le_trans (cutS_mem (c := 32) (s := t) (List.mem_of_getElem? hlast)) hts
  refine word_at ow.osl hlast fun g hg1 => ?_
  rw [hg1]
  generalize lastW t = y at hg hls hlast
  refine impl_numRead er (by omega) ?_
  have hny := numI_le (s := y)
  generalize numI y = n at hg hny
  rw [pBin_add (by omega), e1]
  refine at1p hv1 hbk fun q g2 hg2 => ?_
  refine impl_groupHeadZ tab (by omega) (by omega) hny ⟨(Keeps.refl _).stay, ?_⟩
  have no : ∀ z, ¬ (gheadZ gen k n = t ∧ (0 ≤ n ∧ n ≤ 600) ∧ a + (1 + lenB n) ≤ 12) → R (.tuple ⟨[.string z, .bool false]⟩) s1 := fun z h => hno _ s1 (by rw [hg, if_neg h]) k1
  rw [hg2, pBin_sne, pIf_d]
  refine ⟨fun h => no _ fun h' => h h'.1, fun ha => ?_⟩
  have ha : gheadZ gen k n = t := by simpa using ha
  refine impl_within ?_
  rw [pUn_not, pIf_b]
  refine ⟨fun h => no _ fun h' => inB_notV h h'.2.1, fun hn => ?_⟩
  have hn := inB_yesV (by simpa using hn)
  refine impl_groupBlocksN (by omega) ?_
  have hlb : lenB n ≤ 10 := by unfold lenB; omega
  rw [pBin_add (by omega), pBin_gt, pIf_d]
  refine ⟨fun h => no _ fun h' => by omega, fun hfit => ?_⟩
  have hfit : a + (1 + lenB n) ≤ 12 := by omega
  rw [if_pos ⟨ha, hn, hfit⟩] at hg
  generalize hT' : groupI B gen k a = T at hg hyes hno
  refine loop_rule (m := lenB n) (fun m l s => ∃ (i : Nat) (out : ByteArray), s = s1 ∧ m + i = lenB n ∧ out.size ≤ 64 * i ∧ T = textI B n.toNat m (3 + a + i) out ∧ l = [.int .i64 (a : Nat), .string ⟨#[]⟩, .bool false, .int .i64 n, .string out, .int .i64 ((1 + i : Nat) : Int), v]) ?_
    ⟨0, ⟨#[]⟩, rfl, by omega, Nat.zero_le _, hg, rfl⟩
  rintro m l s L ⟨i, out, rfl, hm, ho, ht, rfl⟩ hL
  clear hg
  simp only [vget, List.getD_cons_zero, List.getD_cons_succ]
  refine impl_groupBlocksN (by omega) ?_
  rw [pBin_lt, pIf_d]
  refine ⟨fun hlt => ?_, fun hge => ?_⟩
  · obtain ⟨m, rfl⟩ : ∃ k, m = k + 1 := ⟨m - 1, by omega⟩
    unfold textI at ht
    have e2 : (2 : Int) + ((a : Nat) : Int) + ((1 + i : Nat) : Int) = ((3 + a + i : Nat) : Int) := by omega
    have hx := at0_some (B := B) (i := 3 + a + i) (by omega)
    have hxs := hsz (3 + a + i)
    generalize at0 B (3 + a + i) = b at ht hx hxs
    rw [pBin_add (by omega), pBin_add (by omega), e2]
    refine RSl.at1 hv1 hx fun g hg1 _ => ?_
    rw [hg1, pLenS_s, pBin_lt, pIf_d]
    refine ⟨fun hs => hno _ s (by rw [ht, if_pos (.inl (by omega))]) k1, fun hs => ?_⟩
    have h0 : 0 < b.size := by omega
    have hget := bl_get b 0 h0
    have hh : (bl b).head? = some (b[0]'h0) := by rw [List.head?_eq_getElem?]; exact hget
    refine pIndexStr_s (j := 0) h0 ?_
    generalize hb : b[0]'h0 = x at hget hh
    rw [pBin_ne, pIf_d]
    refine ⟨fun hne => ?_, fun he => ?_⟩
    · have h68 : (bl b).head? ≠ some 68 := fun e => hne (by
        rw [hh] at e
        have e2 : x = 68 := Option.some.inj e
        rw [e2]; rfl)
      exact hno _ s (by rw [ht, if_pos (.inr h68)]) k1
    · have h68 : (bl b).head? = some 68 := by
        rw [hh]
        congr 1
        exact UInt8.toNat_inj.1 (by show x.toNat = 68; omega)
      rw [if_neg fun h => by rcases h with h | h; · omega
                             · exact h h68] at ht
      refine pSliceStr_s (l := 1) (h := (b.size : Nat)) rfl rfl (by omega) ?_
      rw [show (1 : Int).toNat = 1 from rfl, Int.toNat_natCast, pBin_cat (by rw [ByteArray.size_extract]; omega), pBin_add (by omega)]
      refine hL _ _ m rfl ⟨i + 1, _, rfl, by omega, by rw [ByteArray.size_append, ByteArray.size_extract]; omega, ht, ?_⟩
      congr 2
  · have e : m = 0 := by omega
    subst e
    unfold textI at ht
    show pLenS (.string out) (fun v35 => pBin Tryz.prog 3 .eql v35 (.int .i64 n) (fun v36 => R (.tuple (⟨[.string out, v36]⟩)) s))
    rw [pLenS_s, pBin_eq]
    by_cases hs : out.size = n.toNat
    · rw [if_pos hs] at ht
      rw [decide_eq_true (by omega)]
      exact hyes _ s ht k1
    · rw [if_neg hs] at ht
      rw [decide_eq_false (by omega)]
      exact hno _ s ht k1
end
end Go.Proofs.YtlfnfpdipghdiaaGreatDoor

/- How a disk is opened and a store is played, by the program's hand. -/
set_option linter.unusedVariables false
set_option linter.unusedSimpArgs false
set_option maxRecDepth 20000
namespace Go.Proofs.YtlfnfpdipghdiaaGreatDoor
open Go Go.Av Go.RowKit

section
variable {w0 : World} {σ : Vw}

set_option maxHeartbeats 2000000 in
theorem impl_StoreOpen (tab : Tab w0) (mx : MaxL w0) (er : ErrL w0) {v : Value} {B : List ByteArray} (h : RSl 1 RS (Av.get w0 σ) v B) {R : Value → Vw → Prop} (hR : OutO w0 σ B R) : AC Tryz.prog w0 n_impl_StoreOpen [.agg ⟨[v]⟩] σ R := by
  refine ac_impl_StoreOpen ?_
  unfold vc_impl_StoreOpen cs_impl_StoreOpen_1 cs_impl_StoreOpen_3 cs_impl_StoreOpen_2
  rw [pVal_1 h.one]
  simp only [cellOf_agg, List.getD_cons_zero]
  have fail : ∀ s, Keeps σ s → openP B = none → R (.tuple ⟨[.agg ⟨[.int .i64 0, .string ⟨#[]⟩, .slice none 0 0, .int .i64 0]⟩, .bool false]⟩) s := fun s k e => by
    have := hR [.int .i64 0, .string ⟨#[]⟩, .slice none 0 0, .int .i64 0] [] s k (by rw [openR_none e]; exact ASto.zero) (fun i hi => by cases hi)
    rw [openR_none e] at this; exact this
  refine impl_DiskOk h ?_
  rw [pUn_not, pIf_b]
  refine ⟨fun hd => ?_, fun hd => ?_⟩
  · rw [pVal_4 rfl rfl rfl rfl]
    exact fail σ (Keeps.refl _) (open_none0 fun h => by rw [h.1] at hd; cases hd)
  have hB : diskOk B = true := by simpa using hd
  obtain ⟨hsz, hlen⟩ := diskOk_iff.1 hB
  refine impl_head tab mx er (slot := 0) h hB (by omega) fun s1 k1 => ?_
  rw [pExtract_s rfl, pExtract_s rfl]
  refine impl_head tab mx er (slot := 1) (h.mono k1.le fun _ _ h => h) hB (by omega) fun s2 k2 => ?_
  rw [pExtract_s rfl, pExtract_s rfl]
  have K2 := k1.trans k2
  -- behind the groups
  have last : ∀ (gen : Int) (t gv : Value) (tt : ByteArray) (gs : List ByteArray) (F : List Nat) (nx : Nat) (s : Vw), t = .string tt → (1 ≤ gen ∧ gen ≤ 99999) → nx ≤ 12 → Keeps σ s → OAcc w0 t_string 1 OStr s F gv gs → (CleanP B gen nx → ∀ s', Keeps s s' → R (.tuple ⟨[.agg ⟨[.int .i64 gen, .string tt, gv, .int .i64 (nx : Nat)]⟩, .bool true]⟩) s') → (¬ CleanP B gen nx → openP B = none) →
      pLoop (fun l53 K54 s55 => pBin Tryz.prog 3 .lss (vget l53 2) (.int .i64 12) (fun v56 => pIf v56 (pBin Tryz.prog 3 .add (.int .i64 2) (vget l53 2) (fun v57 => pIndexAddr 1 (vget l53 3) v57 (fun v58 => pLoad w0 1 v58 s55 (fun g59 => AC Tryz.prog w0 n_impl_headLike [g59 0, vget l53 1] s55 (fun v60 s61 => pIf v60 (pVal true 4 (.agg (⟨[.int .i64 0, .string ({ data := #[] }), .slice none 0 0, .int .i64 0]⟩)) (K54 AX.ret ([.bool false, vget l53 1, vget l53 2, vget l53 3, .int .i64 0, .string ({ data := #[] }), .slice none 0 0, .int .i64 0, vget l53 8, vget l53 9, vget l53 10, vget l53 11]) s61)) (pBin Tryz.prog 3 .add (vget l53 2) (.int .i64 1) (fun v62 => K54 AX.normal [vget l53 0, vget l53 1, v62, vget l53 3, vget l53 4, vget l53 5, vget l53 6, vget l53 7, vget l53 8, vget l53 9, vget l53 10, vget l53 11] s61))))))) (K54 (AX.exit 2) [vget l53 0, vget l53 1, vget l53 2, vget l53 3, vget l53 4, vget l53 5, vget l53 6, vget l53 7, vget l53 8, vget l53 9, vget l53 10, vget l53 11] s55))) [.bool false, .int .i64 gen, .int .i64 (nx : Nat), v, .int .i64 0, .string ⟨#[]⟩, .slice none 0 0, .int .i64 0, .int .i64 gen, t, gv, .int .i64 (nx : Nat)] s (fun x63 l64 s65 => match x63 with | .normal => pVal true 4 (.agg (⟨[vget l64 8, vget l64 9, vget l64 10, vget l64 11]⟩)) (R (.tuple (⟨[.agg (⟨[vget l64 8, vget l64 9, vget l64 10, vget l64 11]⟩), .bool true]⟩)) s65) | .ret => R (.tuple (⟨[.agg (⟨[vget l64 4, vget l64 5, vget l64 6, vget l64 7]⟩), vget l64 0]⟩)) s65 | .exit i66 => (match Nat.beq i66 2 with | true => pVal true 4 (.agg (⟨[vget l64 8, vget l64 9, vget l64 10, vget l64 11]⟩)) (R (.tuple (⟨[.agg (⟨[vget l64 8, vget l64 9, vget l64 10, vget l64 11]⟩), .bool true]⟩)) s65) | false => False)) := by
    rintro gen t gv tt gs F nx s0 rfl hgen hnx ks0 ho hyes hno
    refine loop_rule (m := 12 - nx) (fun m l s => ∃ i : Nat, m + i = 12 ∧ nx ≤ i ∧ Keeps s0 s ∧ (∀ j, nx ≤ j → j < i → likeP (at0 B (2 + j)) gen = false) ∧ l = [.bool false, .int .i64 gen, .int .i64 (i : Nat), v, .int .i64 0, .string ⟨#[]⟩, .slice none 0 0, .int .i64 0, .int .i64 gen, .string tt, gv, .int .i64 (nx : Nat)]) ?_
      ⟨nx, by omega, Nat.le_refl _, Keeps.refl _, fun j h1 h2 => by omega, rfl⟩
    rintro m l s L ⟨i, hm, hni, ks, hj, rfl⟩ hL
    simp only [vget, List.getD_cons_zero, List.getD_cons_succ]
    rw [pBin_lt, pIf_d]
    refine ⟨fun hlt => ?_, fun hge => ?_⟩
    · have hi : i < 12 := by omega
      have e1 : (2 : Int) + ((i : Nat) : Int) = ((2 + i : Nat) : Int) := by omega
      rw [pBin_add (by omega), e1]
      refine RSl.at1 (h.mono (ks0.trans ks).le fun _ _ h => h) (at0_some (show 2 + i < B.length by omega)) fun g hg' _ => ?_
      rw [hg']
      refine impl_headLike tab mx er (hsz (2 + i)) fun s' k' => ?_
      rw [like_eq _ hgen.1, pIf_b]
      refine ⟨fun hl => ?_, fun hl => ?_⟩
      · rw [pVal_4 rfl rfl rfl rfl]
        refine fail s' ((ks0.trans ks).trans k') (hno fun hc => ?_)
        have := hc i hni hi
        rw [hl] at this; cases this
      · rw [pBin_add (by omega)]
        refine hL _ _ (m - 1) (by omega) ⟨i + 1, by omega, by omega, ks.trans k', fun j h1 h2 => ?_, rfl⟩
        by_cases e : j = i
        · subst e; exact hl
        · exact hj j h1 (by omega)
    · have ho' := ho.frame (σ' := s) (ok_str w0) (ks.but_at fun b hb => (ho.dom (ok_str w0) b hb).2)
      show pVal true 4 (.agg ⟨[.int .i64 gen, .string tt, gv, .int .i64 (nx : Nat)]⟩) (R (.tuple ⟨[.agg ⟨[.int .i64 gen, .string tt, gv, .int .i64 (nx : Nat)]⟩, .bool true]⟩) s)
      rw [pVal_4 rfl rfl (OSl.one' ho'.osl) rfl]
      exact hyes (fun j h1 h2 => hj j h1 (by omega)) s ks
  -- behind the heads
  have rest : ∀ (gen n : Int), genP B = (gen, n) → pBin Tryz.prog 3 .eql (.int .i64 gen) (.int .i64 0) (fun v67 => pIf v67 (pVal true 4 (.agg (⟨[.int .i64 0, .string ({ data := #[] }), .slice none 0 0, .int .i64 0]⟩)) (R (.tuple (⟨[.agg (⟨[.int .i64 0, .string ({ data := #[] }), .slice none 0 0, .int .i64 0]⟩), .bool false]⟩)) s2)) (AC Tryz.prog w0 n_impl_checkText ([.agg (⟨[v]⟩), .int .i64 gen, .int .i64 n]) s2 (fun v68 s69 => pExtract v68 0 (fun v70 => pExtract v68 1 (fun v71 => pUn UnOp.not v71 (fun v72 => pIf v72 (pVal true 4 (.agg (⟨[.int .i64 0, .string ({ data := #[] }), .slice none 0 0, .int .i64 0]⟩)) (R (.tuple (⟨[.agg (⟨[.int .i64 0, .string ({ data := #[] }), .slice none 0 0, .int .i64 0]⟩), .bool false]⟩)) s69)) (pNew w0 t_string [] s69 (fun n73 s74 => pVal false 1 (.int .i64 gen) (pVal false 1 v70 (pVal false 1 (.slice (some (Addr.mk n73 0 none)) 0 0) (pVal false 1 (.int .i64 0) (pVal true 4 (.agg (⟨[.int .i64 gen, v70, .slice (some (Addr.mk n73 0 none)) 0 0, .int .i64 0]⟩)) (pLoop (fun l75 K76 s77 => pLen (vget l75 9) (fun v78 => AC Tryz.prog w0 n_impl_group ([.agg (⟨[vget l75 2]⟩), vget l75 1, v78, vget l75 10]) s77 (fun v79 s80 => pExtract v79 0 (fun v81 => pExtract v79 1 (fun v82 => pUn UnOp.not v82 (fun v83 => pIf v83 (K76 (AX.exit 0) [vget l75 0, vget l75 1, vget l75 2, vget l75 3, vget l75 4, vget l75 5, vget l75 6, vget l75 7, vget l75 8, vget l75 9, vget l75 10] s80) (pVal false 1 v81 ((allOne [v81]) ∧ (pAppend w0 t_string 1 16 (vget l75 9) 1 [v81] s80 (fun v84 s85 => pVal false 1 v84 (pLenS v81 (fun v86 => AC Tryz.prog w0 n_impl_groupBlocks [v86] s85 (fun v87 s88 => pBin Tryz.prog 3 .add (vget l75 10) v87 (fun v89 => pVal false 1 v89 (K76 AX.normal [vget l75 0, vget l75 1, vget l75 2, vget l75 3, vget l75 4, vget l75 5, vget l75 6, vget l75 7, vget l75 8, v84, v89] s88))))))))))))))) ([.bool false, .int .i64 gen, v, .int .i64 0, .string ({ data := #[] }), .slice none 0 0, .int .i64 0, .int .i64 gen, v70, .slice (some (Addr.mk n73 0 none)) 0 0, .int .i64 0]) s74 (fun x90 l91 s92 => match x90 with | .normal => pLoop (fun l93 K94 s95 => pBin Tryz.prog 3 .lss (vget l93 2) (.int .i64 12) (fun v96 => pIf v96 (pBin Tryz.prog 3 .add (.int .i64 2) (vget l93 2) (fun v97 => pIndexAddr 1 (vget l93 3) v97 (fun v98 => pLoad w0 1 v98 s95 (fun g99 => AC Tryz.prog w0 n_impl_headLike [g99 0, vget l93 1] s95 (fun v100 s101 => pIf v100 (pVal true 4 (.agg (⟨[.int .i64 0, .string ({ data := #[] }), .slice none 0 0, .int .i64 0]⟩)) (K94 AX.ret ([.bool false, vget l93 1, vget l93 2, vget l93 3, .int .i64 0, .string ({ data := #[] }), .slice none 0 0, .int .i64 0, vget l93 8, vget l93 9, vget l93 10, vget l93 11]) s101)) (pBin Tryz.prog 3 .add (vget l93 2) (.int .i64 1) (fun v102 => K94 AX.normal [vget l93 0, vget l93 1, v102, vget l93 3, vget l93 4, vget l93 5, vget l93 6, vget l93 7, vget l93 8, vget l93 9, vget l93 10, vget l93 11] s101))))))) (K94 (AX.exit 2) [vget l93 0, vget l93 1, vget l93 2, vget l93 3, vget l93 4, vget l93 5, vget l93 6, vget l93 7, vget l93 8, vget l93 9, vget l93 10, vget l93 11] s95))) [vget l91 0, vget l91 1, vget l91 10, vget l91 2, vget l91 3, vget l91 4, vget l91 5, vget l91 6, vget l91 7, vget l91 8, vget l91 9, vget l91 10] s92 (fun x103 l104 s105 => match x103 with | .normal => pVal true 4 (.agg (⟨[vget l104 8, vget l104 9, vget l104 10, vget l104 11]⟩)) (R (.tuple (⟨[.agg (⟨[vget l104 8, vget l104 9, vget l104 10, vget l104 11]⟩), .bool true]⟩)) s105) | .ret => R (.tuple (⟨[.agg (⟨[vget l104 4, vget l104 5, vget l104 6, vget l104 7]⟩), vget l104 0]⟩)) s105 | .exit i106 => (match Nat.beq i106 2 with | true => pVal true 4 (.agg (⟨[vget l104 8, vget l104 9, vget l104 10, vget l104 11]⟩)) (R (.tuple (⟨[.agg (⟨[vget l104 8, vget l104 9, vget l104 10, vget l104 11]⟩), .bool true]⟩)) s105) | false => False)) | .ret => R (.tuple (⟨[.agg (⟨[vget l91 3, vget l91 4, vget l91 5, vget l91 6]⟩), vget l91 0]⟩)) s92 | .exit i107 => (match Nat.beq i107 0 with | true => pLoop (fun l108 K109 s110 => pBin Tryz.prog 3 .lss (vget l108 2) (.int .i64 12) (fun v111 => pIf v111 (pBin Tryz.prog 3 .add (.int .i64 2) (vget l108 2) (fun v112 => pIndexAddr 1 (vget l108 3) v112 (fun v113 => pLoad w0 1 v113 s110 (fun g114 => AC Tryz.prog w0 n_impl_headLike [g114 0, vget l108 1] s110 (fun v115 s116 => pIf v115 (pVal true 4 (.agg (⟨[.int .i64 0, .string ({ data := #[] }), .slice none 0 0, .int .i64 0]⟩)) (K109 AX.ret ([.bool false, vget l108 1, vget l108 2, vget l108 3, .int .i64 0, .string ({ data := #[] }), .slice none 0 0, .int .i64 0, vget l108 8, vget l108 9, vget l108 10, vget l108 11]) s116)) (pBin Tryz.prog 3 .add (vget l108 2) (.int .i64 1) (fun v117 => K109 AX.normal [vget l108 0, vget l108 1, v117, vget l108 3, vget l108 4, vget l108 5, vget l108 6, vget l108 7, vget l108 8, vget l108 9, vget l108 10, vget l108 11] s116))))))) (K109 (AX.exit 2) [vget l108 0, vget l108 1, vget l108 2, vget l108 3, vget l108 4, vget l108 5, vget l108 6, vget l108 7, vget l108 8, vget l108 9, vget l108 10, vget l108 11] s110))) [vget l91 0, vget l91 1, vget l91 10, vget l91 2, vget l91 3, vget l91 4, vget l91 5, vget l91 6, vget l91 7, vget l91 8, vget l91 9, vget l91 10] s92 (fun x118 l119 s120 => match x118 with | .normal => pVal true 4 (.agg (⟨[vget l119 8, vget l119 9, vget l119 10, vget l119 11]⟩)) (R (.tuple (⟨[.agg (⟨[vget l119 8, vget l119 9, vget l119 10, vget l119 11]⟩), .bool true]⟩)) s120) | .ret => R (.tuple (⟨[.agg (⟨[vget l119 4, vget l119 5, vget l119 6, vget l119 7]⟩), vget l119 0]⟩)) s120 | .exit i121 => (match Nat.beq i121 2 with | true => pVal true 4 (.agg (⟨[vget l119 8, vget l119 9, vget l119 10, vget l119 11]⟩)) (R (.tuple (⟨[.agg (⟨[vget l119 8, vget l119 9, vget l119 10, vget l119 11]⟩), .bool true]⟩)) s120) | false => False)) | false => False))))))))))))))) := by
    intro gen n hgp
    have hg1 : (genP B).1 = gen := by rw [hgp]
    have hg2 : (genP B).2 = n := by rw [hgp]
    have hfa := gen_facts B
    rw [hg1, hg2] at hfa
    rw [pBin_eq, pIf_d]
    refine ⟨fun h0 => ?_, fun h0 => ?_⟩
    · rw [pVal_4 rfl rfl rfl rfl]
      exact fail s2 K2 (open_none0 fun h => h.2 (by rw [hg1]; exact h0))
    obtain ⟨hgb, hnb⟩ : (1 ≤ gen ∧ gen ≤ 99999) ∧ (0 ≤ n ∧ n ≤ 5760) := by
      rcases hfa with h | h
      · exact absurd h h0
      · exact h
    have hne : (genP B).1 ≠ 0 := by rw [hg1]; exact h0
    have en : n = ((n.toNat : Nat) : Int) := by omega
    have ht0 := h.mono K2.le fun _ _ h => h
    rw [en]
    refine impl_checkText ht0 hB hgb (by omega) (fun t ht => ?_) (fun t ht => ?_)
    · rw [pExtract_s rfl, pExtract_s rfl, pUn_not, pIf_b]
      refine ⟨fun h => by simp at h, fun _ => ?_⟩
      have ht' : textP B 0 (genP B).2.toNat 90 (areaI (genP B).1).toNat ⟨#[]⟩ = some t := by rw [hg1, hg2]; exact ht
      have htz := textP_size _ _ _ ht
      intro n0 q1 q2
      have kn : Keeps s2 (s2.put n0 ⟨t_string, [], 0, (0, 0)⟩) := Keeps.put q2
      have on := OAcc.new (w0 := w0) (σ := s2) (ety := t_string) (n := 1) (O := OStr) q1
      have hn0 : ∀ i, i ∈ [n0] → σ i = none := fun i hi => by
        rw [List.mem_singleton.1 hi]
        cases hs : σ n0 with
        | none => rfl
        | some r => rw [K2 n0 r hs] at q2; cases q2
      rw [pVal1 rfl, pVal1 rfl, pVal1 rfl, pVal1 rfl, pVal_4 rfl rfl rfl rfl]
      refine loop_rule (m := 13) (fun m l s => ∃ (gs : List ByteArray) (gv : Value) (F : List Nat) (nx : Nat), m + gs.length = 13 ∧ gs.length ≤ nx ∧ nx ≤ 12 ∧ Keeps σ s ∧ (∀ i, i ∈ F → σ i = none) ∧ OAcc w0 t_string 1 OStr s F gv gs ∧ groupsP B gen 13 [] 0 = groupsP B gen m gs nx ∧ l = [.bool false, .int .i64 gen, v, .int .i64 0, .string ⟨#[]⟩, .slice none 0 0, .int .i64 0, .int .i64 gen, .string t, gv, .int .i64 (nx : Nat)]) ?_
        ⟨[], _, [n0], 0, rfl, Nat.le_refl _, by omega, K2.trans kn, hn0, on, rfl, rfl⟩
      rintro m l s L ⟨gs, gv, F, nx, hm, hgl, hnx, ks, hF, ho, hgr, rfl⟩ hL
      simp only [vget, List.getD_cons_zero, List.getD_cons_succ]
      obtain ⟨m, rfl⟩ : ∃ k, m = k + 1 := ⟨m - 1, by omega⟩
      unfold groupsP at hgr
      have hos := ho.osl.rel (ok_str w0)
      rw [hos.len]
      have hge := group_eq (B := B) (gen := gen) (k := gs.length) (a := nx) hsz hgb (by omega)
      refine impl_group tab mx er (h.mono ks.le fun _ _ h => h) hB hgb (by omega) (fun g s3 hgp3 k3 => ?_) (fun z s3 hgp3 k3 => ?_)
      · rw [hgp3] at hge
        simp only [Option.map_some] at hge
        obtain ⟨c1, c2, c3, c4, _⟩ := group_facts hsz hge
        have hb := blk_600 c1
        rw [hge] at hgr
        simp only at hgr
        rw [pExtract_s rfl, pExtract_s rfl, pUn_not, pIf_b]
        refine ⟨fun h => by simp at h, fun _ => ?_⟩
        have ho3 := ho.frame (ok_str w0) (k3.but_at fun b hb => (ho.dom (ok_str w0) b hb).2)
        refine str_app ho3 (by omega) (by omega) fun gv' F' s4 k4 o4 f4 => ?_
        rw [pVal1 (OSl.one' o4.osl), pLenS_s]
        refine impl_groupBlocks (by omega) ?_
        rw [pBin_add (by omega), pVal1 rfl]
        have K3 := ks.trans k3
        refine hL _ _ m rfl ⟨gs ++ [g], gv', F', nx + blkN g, by simp; omega, by simp; omega, by omega, k4.old K3 hF, fresh_in K3 hF f4, o4, hgr, ?_⟩
        congr 1
      · rw [hgp3] at hge
        simp only [Option.map_none] at hge
        rw [hge] at hgr
        simp only at hgr
        have hgr1 : (groupsP B (genP B).1 13 [] 0) = (gs, nx) := by rw [hg1]; exact hgr
        rw [pExtract_s rfl, pExtract_s rfl, pUn_not, pIf_b]
        refine ⟨fun _ => ?_, fun h => by simp at h⟩
        have K3 := ks.trans k3
        have ho3 := ho.frame (ok_str w0) (k3.but_at fun b hb => (ho.dom (ok_str w0) b hb).2)
        refine last gen (.string t) gv t gs F nx s3 rfl hgb hnx K3 ho3 (fun hc s4 k4 => ?_) (fun hc => ?_)
        · have e := open_clean hB hne ht' (by rw [hgr1, hg1]; exact hc)
          rw [hgr1, hg1] at e
          have ho4 := ho3.frame (ok_str w0) (k4.but_at fun b hb => (ho3.dom (ok_str w0) b hb).2)
          have := hR [.int .i64 gen, .string t, gv, .int .i64 (nx : Nat)] F s4 (K3.trans k4) (by rw [openR_some e]; exact ⟨gv, rfl, ho4, by unfold rng'; simp only; omega, by simp only; omega, by unfold rng'; simp only; omega⟩) hF
          rw [openR_some e] at this
          exact this
        · exact open_dirty hB hne ht' (by rw [hgr1, hg1]; exact hc)
    · rw [pExtract_s rfl, pExtract_s rfl, pUn_not, pIf_b]
      refine ⟨fun _ => ?_, fun h => by simp at h⟩
      rw [pVal_4 rfl rfl rfl rfl]
      exact fail s2 K2 (open_text hB hne (by rw [hg1, hg2]; exact ht))
  rw [pBin_gt, pIf_d]
  refine ⟨fun hgt => ?_, fun hle => ?_⟩
  · exact rest _ _ (by unfold genP; rw [if_pos (by simpa using hgt)]; rfl)
  · exact rest _ _ (by unfold genP; rw [if_neg (by simpa using hle)]; rfl)
end
end Go.Proofs.YtlfnfpdipghdiaaGreatDoor

/- The law: a new store opens with its text once all of it is written, and not before. -/
set_option linter.unusedVariables false
set_option linter.unusedSimpArgs false
set_option maxRecDepth 20000
namespace Go.Proofs.YtlfnfpdipghdiaaGreatDoor
open Go Go.Av Go.RowKit

theorem newR_cut {t : ByteArray} {c : Nat} (hc : c < (newR t).1.length) : openP (runD blankB ((newR t).1.take c)) = none := by
  by_cases hs : t.size ≤ 5760
  · have e : newR t = (savedR 1 t, true) := by unfold newR; rw [if_pos hs]
    rw [e] at hc ⊢
    exact new_cut hs hc
  · have e : newR t = ([], false) := by unfold newR; rw [if_neg hs]
    rw [e] at hc
    simp at hc
theorem newR_all (t : ByteArray) : openR (runD blankB (newR t).1) = if (newR t).2 = true then ((1, t, [], 0), true) else (zeroSt, false) := by
  by_cases hs : t.size ≤ 5760
  · have e : newR t = (savedR 1 t, true) := by unfold newR; rw [if_pos hs]
    rw [e, if_pos rfl]
    exact openR_some (new_open hs)
  · have e : newR t = ([], false) := by unfold newR; rw [if_neg hs]
    rw [e, if_neg (by simp)]
    exact openR_none blank_open

section
variable {w0 : World} {σ : Vw}

theorem blank_loop {K : Value → Vw → Prop} {A B : List Value → Vw → Prop} {a1 a2 a3 a4 a5 : Value} (hK : ∀ (v : Value) (F : List Nat) s, Keeps σ s → OStrs w0 s F v blankB → A [a1, a2, a3, a4, a5, .int .i64 194, v] s) :
    pLoop (fun l18 K19 s20 => pBin Tryz.prog 3 .lss (vget l18 5) (.int .i64 194) (fun v21 => pIf v21 (pVal false 1 (.string ({ data := #[] })) ((allOne ([.string ({ data := #[] })])) ∧ (pAppend w0 t_string 1 16 (vget l18 6) 1 ([.string ({ data := #[] })]) s20 (fun v22 s23 => pVal false 1 v22 (pBin Tryz.prog 3 .add (vget l18 5) (.int .i64 1) (fun v24 => K19 AX.normal [vget l18 0, vget l18 1, vget l18 2, vget l18 3, vget l18 4, v24, v22] s23)))))) (K19 (AX.exit 0) [vget l18 0, vget l18 1, vget l18 2, vget l18 3, vget l18 4, vget l18 5, vget l18 6] s20))) [a1, a2, a3, a4, a5, .int .i64 0, .slice none 0 0] σ (fun x l s => match x with | .normal => A l s | .ret => B l s | .exit i => (match Nat.beq i 0 with | true => A l s | false => False)) := by
  refine loop_rule (m := 194) (fun m l s => ∃ (j : Nat) (v : Value) (F : List Nat), m + j = 194 ∧ Keeps σ s ∧ (∀ i, i ∈ F → σ i = none) ∧ OAcc w0 t_string 1 OStr s F v (List.replicate j ⟨#[]⟩) ∧ l = [a1, a2, a3, a4, a5, .int .i64 (j : Nat), v]) ?_
    ⟨0, _, [], rfl, Keeps.refl _, by simp, OAcc.nil, rfl⟩
  rintro m l s L ⟨j, v, F, hm, ks, hF, ho, rfl⟩ hL
  simp only [vget, List.getD_cons_zero, List.getD_cons_succ]
  rw [pBin_lt, pIf_d]
  refine ⟨fun hj => ?_, fun hj => ?_⟩
  · refine str_app ho (Nat.zero_le _) (by simp; omega) fun v' F' s' k' o' f' => ?_
    rw [pVal1 (OSl.one' o'.osl), pBin_add (by omega)]
    refine hL _ _ (m - 1) (by omega) ⟨j + 1, v', F', by omega, k'.old ks hF, fresh_in ks hF f', ?_, rfl⟩
    rw [List.replicate_succ']; exact o'
  · have e : j = 194 := by omega
    subst e
    exact hK v F s ks ho.osl

set_option maxHeartbeats 2000000 in
theorem law_StoreNewF (tab : Tab w0) (mx : MaxL w0) (er : ErrL w0) {u u' : Value} {bs bs' : List Nat} (h : Codes w0 u bs) (h' : Codes w0 u' bs') {R : Value → Vw → Prop} (hR : ∀ s, R (.bool true) s) : AC Tryz.prog w0 n_laws_FnStoreNew [u, u'] σ R := by
  refine ac_laws_FnStoreNew ?_
  unfold vc_laws_FnStoreNew cs_laws_FnStoreNew_2 cs_laws_FnStoreNew_1
  rw [(h.at (σ := σ)).len, pBin_gt, pIf_d]
  refine ⟨fun _ => hR _, fun _ => ?_⟩
  rw [(h'.at (σ := σ)).len, pBin_gt, pIf_d]
  refine ⟨fun _ => hR _, fun _ => ?_⟩
  refine spec_DrawStoreNew h fun t s1 k1 ht => ?_
  have hnl := newR_len t
  refine impl_StoreNew tab fun v2 F2 s2 k2 o2 f2 => ?_
  rw [pExtract_s rfl, pExtract_s rfl]
  refine spec_StoreNew fun v3 F3 s3 k3 o3 f3 => ?_
  rw [pExtract_s rfl, pExtract_s rfl, pB_ne (by kernel_rfl), pIf_b]
  refine ⟨fun h => by simp at h, fun _ => ?_⟩
  have r2 := (o2.rel (ok_raw w0)).mono k3.le fun _ _ h => h
  refine wdRaws r2 (o3.rel (ok_raw w0)) ?_
  rw [decide_eq_true rfl, pUn_not, pIf_b]
  refine ⟨fun h => by simp at h, fun _ => ?_⟩
  rw [pVal_1 rfl]
  refine blank_loop (K := R) fun v4 F4 s4 k4 o4 => ?_
  have r4 := o4.rel (ok_str w0)
  have r24 := r2.mono k4.le fun _ _ h => h
  simp only [vget, List.getD_cons_zero, List.getD_cons_succ]
  refine loop_rule (m := (newR t).1.length) (fun m l s => ∃ k : Nat, m + k = (newR t).1.length ∧ Keeps s4 s ∧ l = [u', .bool false, .string t, v2, .bool (newR t).2, .int .i64 (k : Nat), v4]) ?_ ⟨0, by omega, Keeps.refl _, rfl⟩
  rintro m l s L ⟨k, hm, ks, rfl⟩ hL
  simp only [vget, List.getD_cons_zero, List.getD_cons_succ]
  have rs := r4.mono ks.le fun _ _ h => h
  have ws := r24.mono ks.le fun _ _ h => h
  rw [ws.len, pBin_lt, pIf_d]
  refine ⟨fun hlt => ?_, fun hge => ?_⟩
  · refine impl_DiskWrite rs ws fun v5 F5 s5 k5 o5 f5 => ?_
    rw [writeD_cut blank_ok _ (by omega), Int.toNat_natCast] at o5
    refine impl_StoreOpen tab mx er (o5.rel (ok_str w0)) fun es6 F6 s6 k6 a6 f6 => ?_
    rw [openR_none (newR_cut (by omega))] at a6 ⊢
    have r6 := a6.rsto
    rw [pExtract_s rfl, pExtract_s rfl, r6.four, pIf_b]
    refine ⟨fun h => by simp at h, fun _ => ?_⟩
    rw [pBin_add (by omega)]
    exact hL _ _ (m - 1) (by omega) ⟨k + 1, by omega, (ks.trans k5).trans k6, rfl⟩
  · have fin : AC Tryz.prog w0 n_impl_DiskWrite ([.agg (⟨[v4]⟩), v2, .int .i64 ((newR t).1.length : Nat)]) s (fun v44 s45 => AC Tryz.prog w0 n_impl_StoreOpen [v44] s45 (fun v46 s47 => pExtract v46 0 (fun v48 => pExtract v46 1 (fun v49 => pVal true 4 v48 (AC Tryz.prog w0 n_spec_DrawDiskOk [u'] s47 (fun v50 s51 => pVal true 1 v50 (pBin Tryz.prog t_bool .eql v49 (.bool (newR t).2) (fun v52 => pIf v52 (pUn UnOp.not (.bool (newR t).2) (fun v53 => pIf v53 (AC Tryz.prog w0 n_impl_DiskOk ([.agg (⟨[cellOf v50 0]⟩)]) s51 (fun v54 s55 => AC Tryz.prog w0 n_spec_DiskOk ([.agg (⟨[cellOf v50 0]⟩)]) s55 (fun v56 s57 => pBin Tryz.prog t_bool .eql v54 v56 (fun v58 => R v58 s57)))) (pBin Tryz.prog t_string .eql (cellOf v48 1) (.string t) (fun v59 => pIf v59 (pLen (cellOf v48 2) (fun v60 => pBin Tryz.prog 3 .eql v60 (.int .i64 0) (fun v61 => pIf v61 (pBin Tryz.prog 3 .eql (cellOf v48 0) (.int .i64 1) (fun v62 => pIf v62 (AC Tryz.prog w0 n_impl_DiskOk ([.agg (⟨[cellOf v50 0]⟩)]) s51 (fun v63 s64 => AC Tryz.prog w0 n_spec_DiskOk ([.agg (⟨[cellOf v50 0]⟩)]) s64 (fun v65 s66 => pBin Tryz.prog t_bool .eql v63 v65 (fun v67 => R v67 s66)))) (R (.bool false) s51))) (R (.bool false) s51)))) (R (.bool false) s51))))) (R (.bool false) s51))))))))) := by
      refine impl_DiskWrite rs ws fun v5 F5 s5 k5 o5 f5 => ?_
      rw [writeD_all blank_ok] at o5
      refine impl_StoreOpen tab mx er (o5.rel (ok_str w0)) fun es6 F6 s6 k6 a6 f6 => ?_
      rw [newR_all] at a6 ⊢
      have r6 := a6.rsto
      rw [pExtract_s rfl, pExtract_s rfl, r6.four]
      refine spec_DrawDiskOk h' fun v7 B7 s7 k7 r7 => ?_
      rw [pVal_1 r7.one]
      simp only [cellOf_agg, List.getD_cons_zero]
      have last : AC Tryz.prog w0 n_impl_DiskOk ([.agg (⟨[v7]⟩)]) s7 (fun v54 s55 => AC Tryz.prog w0 n_spec_DiskOk ([.agg (⟨[v7]⟩)]) s55 (fun v56 s57 => pBin Tryz.prog t_bool .eql v54 v56 (fun v58 => R v58 s57))) := by
        refine impl_DiskOk r7 ?_
        refine spec_DiskOk r7 ?_
        rw [pB_eq (by kernel_rfl)]
        exact hR _
      have r67 := mono_sto k7.le r6
      cases hb : (newR t).2 with
      | false =>
        rw [if_neg (by simp)]
        rw [pB_eq (by kernel_rfl), pIf_b]
        refine ⟨fun _ => ?_, fun h => by simp at h⟩
        rw [pUn_not, pIf_b]
        exact ⟨fun _ => last, fun h => by simp at h⟩
      | true =>
        rw [hb, if_pos rfl] at r67
        rw [if_pos rfl]
        rw [pB_eq (by kernel_rfl), pIf_b]
        refine ⟨fun _ => ?_, fun h => by simp at h⟩
        rw [pUn_not, pIf_b]
        refine ⟨fun h => by simp at h, fun _ => ?_⟩
        obtain ⟨g, ge, hg, _⟩ := r67
        rw [ge]
        simp only [List.getD_cons_zero, List.getD_cons_succ]
        rw [pBin_seq, pIf_d]
        refine ⟨fun _ => ?_, fun h => absurd rfl h⟩
        rw [hg.len, pBin_eq, pIf_d]
        refine ⟨fun _ => ?_, fun h => absurd rfl h⟩
        rw [pBin_eq, pIf_d]
        exact ⟨fun _ => last, fun h => absurd rfl h⟩
    show pLen v2 _
    rw [ws.len]
    exact fin
end
end Go.Proofs.YtlfnfpdipghdiaaGreatDoor

/- The law FnStoreNew holds: it returns true, and the input reads as it did. No condition. -/
namespace Go.Proofs.YtlfnfpdipghdiaaGreatDoor.fnStoreNew
open Go.ChangeShapes Go.WideShapes Go.ChangeAt Go.RowKit Go.Av
set_option linter.unusedVariables false
set_option linter.unusedSimpArgs false
theorem own : ownKnob Tryz.prog.godebug = none := by kernel_rfl
theorem laidOut : laidOutB Tryz.prog = true := by kernel_rfl
abbrev laidL : List (String × DataW Unit) := [("math/bits.deBruijn32tab", Rows.laid_math_bits_deBruijn32tab), ("math/bits.deBruijn64tab", Rows.laid_math_bits_deBruijn64tab), ("internal/strconv.uint64pow10", Rows.laid_internal_strconv_uint64pow10), ("unicode/utf8.acceptRanges", Rows.laid_unicode_utf8_acceptRanges), ("strconv.ErrRange", Rows.laid_strconv_ErrRange), ("strconv.ErrSyntax", Rows.laid_strconv_ErrSyntax), ("unicode/utf8.first", Rows.laid_unicode_utf8_first)]
theorem max_of {W : World} (h : W.ShapedOpen Tryz.prog) : MaxL W := by
  obtain ⟨m, hm⟩ := cell_of_shapedOpen_int (g := 0) (t := 3) (zero := #[.int .i64 0]) (k := .i64) h (of_decide_eq_true (by kernel_rfl)) (by kernel_rfl) rfl (by kernel_rfl) (by kernel_rfl) (by kernel_rfl)
  refine ⟨m, fun w hw => ?_⟩
  have hlt : (0 : Nat) < W.heap.size := by
    rcases Nat.lt_or_ge 0 W.heap.size with h' | h'
    · exact h'
    · simp [World.cell?, Array.getElem?_eq_none h'] at hm
  rw [← hm]
  exact hw.cell hlt
/-- The wrap with a condition of its own, the world's shape kept. -/
theorem wrap {H : Type} {enc : TypeId × Value → H} {a : Assume} {C : Checked} {os : Os} {f : FuncId} {fn : Func} {s : ChangeSpec} {conds : List PathCond} {apart fresh handsOn again : Bool} {X : World → Array Value → Prop}
    (own : ownKnob C.prog.godebug = none) (started : os.Started) (noInit : C.prog.inits.idxOf? f = none) (hfn : C.prog.funcs[f]? = some fn)
    (witness : ∃ (w : World) (tape : Tape) (i : Input), w.os = os ∧ (w.forCall tape i).Shaped C.prog ∧ i.vars = [] ∧ Input.okWide C.prog (w.forCall tape i) .any w.heap.size f i ∧
      ((s.pre enc C.prog fn conds apart (w.forCall tape i).memory i.args ∧ X (w.forCall tape i).memory i.args) ∧ sizedMet enc C.prog fn (OpenSpec.ofChange s) apart (w.forCall tape i).memory i.args) ∧ a.holds C.prog (lone (Frame.enter C.prog f i.args .normal) [] (w.forCall tape i)))
    (hof : ∀ (w w' : World) (args : Array Value), w'.heap = w.heap → X w args → X w' args)
    (contract : ∀ (W : World) (base : Nat) (args : Array Value) (ds gs : List (DataW H)) (before : List MemPlace),
      (∀ (j : Nat) t v, fn.params[j]? = some t → args[j]? = some v → Value.okWide C.prog W .any base t v) →
      DataW.Whole enc C.prog fn.params.toList s.vars apart W args.toList ds gs before → W.ShapedOpen C.prog → X W args →
      Calls C.prog f args W fun e W' => ∃ v, e = .returned v ∧ s.post enc C.prog fn apart fresh handsOn again W args v W') :
    ReturnsInHanded a C os f .any (fun w args => (s.pre enc C.prog fn conds apart w args ∧ X w args) ∧ sizedMet enc C.prog fn (OpenSpec.ofChange s) apart w args) (s.post enc C.prog fn apart fresh handsOn again) := by
  refine returnsInHanded_of_calls own started noInit witness ?_
  intro w tape i _ hsh _ hok hpre hholds
  obtain ⟨_, _, _, fn', hfn', _, _, _, _, hval⟩ := hok
  have e : fn' = fn := Option.some.inj (hfn'.symm.trans hfn)
  subst e
  obtain ⟨⟨⟨ds, gs, before, hw, hc⟩, hx⟩, hz⟩ := hpre
  have hw' := DataW.Whole.of_heap (w' := w.forCall tape i) (by rfl) hw
  refine (contract (w.forCall tape i) w.heap.size i.args ds gs before hval hw' hsh (hof (w.forCall tape i).memory _ _ rfl hx)).mono fun e W' ⟨v, he, hp⟩ => ?_
  subst he
  exact ChangeSpec.post_blind hp
theorem gPow : Tryz.prog.globalNamed "internal/strconv.uint64pow10" = some 3 := by kernel_rfl
theorem tab_of {W : World} (h : laidMetH Tryz.prog laidL W) : Tab W := by
  rw [MakeChecks.laidMetH_plain _ _ _ (by kernel_rfl)] at h
  have h3 := laidMet.tail (laidMet.tail (h))
  have e : (Rows.laid_internal_strconv_uint64pow10 : DataW Unit) = Lib.tabData .u64 Lib.pow10Tab := by kernel_rfl
  rw [e] at h3
  have ht : Lib.TabIs Tryz.prog W "internal/strconv.uint64pow10" .u64 Lib.pow10Tab := Lib.tabIs_of_head (n := 20) (t := 127) (e := 114) gPow (by kernel_rfl) (by kernel_rfl) (by kernel_rfl) (by kernel_rfl) (by kernel_rfl) h3
  intro w hw
  refine var?_below hw gPow ?_ ht
  rcases Nat.lt_or_ge 3 W.heap.size with h' | h'
  · exact h'
  · simp [Lib.TabIs, World.var?, gPow, Array.getElem?_eq_none h'] at ht
theorem star : "*" ++ "errors.errorString" = "*errors.errorString" := by decide
theorem rowE (u : TypeId) (h : Tryz.prog.typeName? 3 u = some "*errors.errorString") : u = 140 :=
  typeName_ptr_named (nm := "errors.errorString") (by rw [star]; kernel_rfl) (by kernel_rfl) (by decide) u (by rw [star]; exact h)
theorem gSyn : Tryz.prog.globalNamed "strconv.ErrSyntax" = some 1 := by kernel_rfl
theorem gRan : Tryz.prog.globalNamed "strconv.ErrRange" = some 2 := by kernel_rfl
theorem low_of {W : World} {n : String} {g : Nat} {cs : Array Value} (hg : Tryz.prog.globalNamed n = some g) (h : W.var? Tryz.prog n = some cs) : g < W.heap.size := by
  rcases Nat.lt_or_ge g W.heap.size with h' | h'
  · exact h'
  · simp [World.var?, hg, Array.getElem?_eq_none h'] at h
theorem err_of {W : World} (h : laidMetH Tryz.prog laidL W) : ErrL W := by
  rw [MakeChecks.laidMetH_plain _ _ _ (by kernel_rfl)] at h
  have hr := laidMet.tail (laidMet.tail (laidMet.tail (laidMet.tail (h))))
  have hs := laidMet.tail (laidMet.tail (laidMet.tail (laidMet.tail (laidMet.tail (h)))))
  obtain ⟨a, t, hv, _⟩ := laid_sentinel hs gSyn (ti := 95)  (by kernel_rfl) Tryz.underlying95 rowE (te := 142) (by kernel_rfl) (f := (fsOf Tryz.prog 142)[0]!) (ts := 9) (by kernel_rfl) (by kernel_rfl) (by kernel_rfl) (by kernel_rfl) (by kernel_rfl) (by kernel_rfl)
  obtain ⟨a', t', hv', _⟩ := laid_sentinel hr gRan (ti := 95)  (by kernel_rfl) Tryz.underlying95 rowE (te := 142) (by kernel_rfl) (f := (fsOf Tryz.prog 142)[0]!) (ts := 9) (by kernel_rfl) (by kernel_rfl) (by kernel_rfl) (by kernel_rfl) (by kernel_rfl) (by kernel_rfl)
  exact ⟨_, _, _, _, fun w hw => ⟨var?_below hw gSyn (low_of gSyn hv) hv, var?_below hw gRan (low_of gRan hv') hv'⟩⟩
set_option maxRecDepth 100000 in
theorem lifted (os : Os) (started : os.Started) (H : Type) (enc : TypeId × Value → H) :
    ReturnsInHanded {} Tryz.checked os 3 .any (fun w args => (Rows.fnStoreNewSpec.pre enc Tryz.prog Tryz.f3 [] false w args ∧ laidMetH Tryz.prog laidL w) ∧ sizedMet enc Tryz.prog Tryz.f3 (OpenSpec.ofChange Rows.fnStoreNewSpec) false w args)
      (Rows.fnStoreNewSpec.post enc Tryz.prog Tryz.f3 false true false false) := by
  refine wrap (C := Tryz.checked) (X := fun w _ => laidMetH Tryz.prog laidL w) own started (by kernel_rfl) Tryz.func3
    (ChangeSpec.witness_shaped (enc := enc) (C := Tryz.checked) (os := os) (X := fun w _ => laidMetH Tryz.prog laidL w) false (World.laidAll Tryz.prog os laidL) #[.slice none 0 0, .slice none 0 0] 8 (World.laidAll_os _ _ _)
      (World.shaped_of_ZipB (by kernel_rfl) (by kernel_rfl)) (by kernel_rfl) (by kernel_rfl) (by kernel_rfl)
      (by rw [MakeChecks.laidMetH_plain _ _ _ (by kernel_rfl)]; exact laidMet_laidAll _ (by kernel_rfl) (by kernel_rfl))) (fun _ _ _ hh h => h.of_heap hh.symm) ?_
  intro W base args ds gs before hval0 hW hsh hL
  have hval : ∀ (j : Nat) t v, Tryz.f3.params[j]? = some t → args[j]? = some v → Value.okWide Tryz.prog W .any base t v := hval0
  have hW' := hW
  obtain ⟨p, q, hA0, hV, rfl, hfz, hnd⟩ := hW
  have hA : DataW.TrodAll enc Tryz.prog W 0 (fun _ => true) true Tryz.f3.params.toList args.toList ds p := hA0
  rw [Tryz.params3] at hA hval
  obtain ⟨v0, v1, d0, d1, p0, p1, rfl, rfl, hpp, h0, h1⟩ := trodAll_two hA
  obtain ⟨rfl, rfl⟩ := trodVars_none hV
  obtain ⟨A0, len0, cap0, rfl⟩ := okWide_slice (t := 22) (e := 5) (by kernel_rfl) (hval 0 22 v0 rfl rfl)
  obtain ⟨A1, len1, cap1, rfl⟩ := okWide_slice (t := 22) (e := 5) (by kernel_rfl) (hval 1 22 v1 rfl rfl)
  have h0k := h0
  obtain ⟨fuel0, hf0⟩ := h0
  have h1k := h1
  obtain ⟨fuel1, hf1⟩ := h1
  clear hA0 hval0
  simp only [List.append_nil] at hW'
  have hlt : ∀ x ∈ p, x.block < W.heap.size := fun x hx => by simpa using hW'.lt x hx
  have hargs0 : ∀ (W' : World), Below W.heap.size W W' → DataW.Trod enc Tryz.prog W' 0 (fun b => decide (b < W.heap.size)) true 22 (.slice A0 len0 cap0) d0 p0 :=
    fun W' hn => Below.trod laidOut (by kernel_rfl) (of_decide_eq_true (by kernel_rfl)) h0k hn (fun x hx => hlt x (by rw [hpp]; simp [hx]))
  have hargs1 : ∀ (W' : World), Below W.heap.size W W' → DataW.Trod enc Tryz.prog W' 0 (fun b => decide (b < W.heap.size)) true 22 (.slice A1 len1 cap1) d1 p1 :=
    fun W' hn => Below.trod laidOut (by kernel_rfl) (of_decide_eq_true (by kernel_rfl)) h1k hn (fun x hx => hlt x (by rw [hpp]; simp [hx]))
  obtain ⟨u0, x0, hu0, r0⟩ := open_rsl (t := t_s_uint8) (e := t_uint8) (by kernel_rfl) (by kernel_rfl) open_byteD hf0
  have hu0' : u0 = .slice A0 len0 cap0 := by
    have : [Value.slice A0 len0 cap0] = [u0] := hu0
    cases this; rfl
  subst hu0'
  obtain ⟨u1, x1, hu1, r1⟩ := open_rsl (t := t_s_uint8) (e := t_uint8) (by kernel_rfl) (by kernel_rfl) open_byteD hf1
  have hu1' : u1 = .slice A1 len1 cap1 := by
    have : [Value.slice A1 len1 cap1] = [u1] := hu1
    cases this; rfl
  subst hu1'
  refine ((law_StoreNewF (tab_of hL) (max_of hsh) (err_of hL) (R := fun v _ => v = .bool true) r0 r1 (by intros; rfl)).calls).mono fun e W' ⟨v, σ', he, hv, bel⟩ => ?_
  subst he hv
  have hW'' := hW'
  rw [hpp] at hW''
  exact ⟨_, rfl, _, _, _, [], _, [], hW'', trodAll_mk1 (shut_bool Tryz.underlying4 _), trodAll_mk2 (hargs0 W' bel) (hargs1 W' bel), rfl, bel.frame _, fun h => by cases h⟩
theorem over : Rows.fnStoreNewRow.holds Tryz.pinned (OpenSpec.ofChange Rows.fnStoreNewSpec) :=
  OpenClaim.holds_of_wide 3 Tryz.f3 rfl rfl rfl rfl rfl rfl rfl ⟨rfl, rfl, rfl, rfl, rfl⟩ rfl rfl rfl rfl rfl (by kernel_rfl) Tryz.func3 (by kernel_rfl)
    (of_decide_eq_true (by kernel_rfl)) (by unfold Func.isWrapper; first | (rw [if_pos (by decide +kernel)]; kernel_rfl) | (rw [if_neg (by decide +kernel)]; exact ⟨rfl, rfl⟩))
    (fun os started H enc _ => lifted os started H enc)
/-- THE TIED CARD. -/
theorem proved : Rows.FnStoreNewCardSaid :=
  Claim7.holds_tied_plain_at .later [] [.data, .data, .data, .data, .sentinel, .sentinel, .pinned] true (true, "688e450611f40eb416bb64e97047e4b96384ec6804f935a9b8489b4b55b0f0cc") true
    over (fun _ h => by cases h) (by kernel_rfl) (fun _ h => by cases h) fnStoreNew_row_tie rfl ⟨rfl, rfl⟩ (by kernel_rfl) rfl
    (fun f fn hf hfn => by
      obtain rfl : f = 3 := Option.some.inj ((show Tryz.prog.funcNamed "loop.example/changetrail/laws.FnStoreNew" = some 3 by kernel_rfl).symm.trans hf) |>.symm
      obtain rfl : fn = Tryz.f3 := (Option.some.inj (Tryz.func3.symm.trans hfn)).symm
      exact ⟨by kernel_rfl, fun j t ht => by
        rw [Tryz.params3] at ht
        have hm : t ∈ [22, 22] := by simpa using Array.mem_of_getElem? ht
        have hall : ([22, 22].all fun u => !Tryz.prog.wantsStandIn u) = true := by kernel_rfl
        exact (show Tryz.prog.wantsStandIn t = false by simpa using List.all_eq_true.1 hall t hm)⟩)
    (by kernel_rfl)
end Go.Proofs.YtlfnfpdipghdiaaGreatDoor.fnStoreNew
namespace Go.Proofs.YtlfnfpdipghdiaaGreatDoor
/-- The row, under a short name, for the claim. -/
theorem fnStoreNew_holds : Rows.FnStoreNewCardSaid := fnStoreNew.proved
end Go.Proofs.YtlfnfpdipghdiaaGreatDoor
