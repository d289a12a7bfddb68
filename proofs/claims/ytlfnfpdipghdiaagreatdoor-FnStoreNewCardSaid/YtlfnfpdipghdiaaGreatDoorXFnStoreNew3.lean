/- The law FnStoreNew holds: it returns true, and the input reads as it did. No condition. This is part 3 of 4 of its proof. -/
import Derived.Test.YtlfnfpdipghdiaaGreatDoorXFnStoreNew2
import Derived.Lib.AppendIntMem
import Derived.Lib.Join
import Derived.Lib.SlicesCompact
import Derived.Sort.Walk0
import Derived.Shelf.Sort.Plain
import Derived.Shelf.Slices.CompactS
import Derived.Shelf.Slices.Cells
import Derived.Shelf.Slices.In.SortNone
import Derived.ChangeKeysEq
import Derived.WalkSmall
import Derived.Lib.IndexBytes
import Derived.Lib.AtoiAll
import Derived.Lib.AtoiErrMem

/- Decimals by either hand; how a text is cut into blocks. -/
set_option linter.unusedVariables false
set_option linter.unusedSimpArgs false
namespace Go.Proofs.YtlfnfpdipghdiaaGreatDoor
open Go Go.Av Go.RowKit

theorem nums_dig (n : Nat) : strOfNums [((48 + n % 10 : Nat) : Int)] = ofL [dig n] := by
  have h := bl_byte (48 + n % 10)
  rw [Nat.mod_eq_of_lt (by omega)] at h
  exact bl_inj (by rw [h, bl_ofL]; rfl)
theorem pUn_neg {n : Int} {K : Value → Prop} (h : -9223372036854775807 ≤ n ∧ n ≤ 9223372036854775807) : pUn .neg (.int .i64 n) K ↔ K (.int .i64 (-n)) := by
  have e : aun .neg (.int .i64 n) = some (.int .i64 (-n)) := by
    show some (Value.int .i64 (IntKind.i64.wrap (0 - n))) = _
    rw [IntWalk.i64_in (0 - n) (by omega), Int.zero_sub]
  exact ⟨fun ⟨_, h', hK⟩ => by rw [e] at h'; cases h'; exact hK, fun hK => ⟨_, e, hK⟩⟩
theorem dec_min : decZ (-9223372036854775808) = minText := by
  have : decL 9223372036854775808 = [57, 50, 50, 51, 51, 55, 50, 48, 51, 54, 56, 53, 52, 55, 55, 53, 56, 48, 56] := by
    simp [decL_big, decL_small, dig]
  unfold decZ
  rw [if_pos (by omega)]
  have e : (-(-9223372036854775808 : Int)).toNat = 9223372036854775808 := rfl
  rw [e, decN, this]
  rfl
theorem decN_big {k : Nat} (h : ¬ k < 10) : decN k = decN (k / 10) ++ ofL [dig k] := by
  rw [decN, decL_big h, ← ofL_append]; rfl

section
variable {w0 : World} {σ : Vw}

theorem dec_row {σ' : Vw} {k : Nat} {K : Vw → Value → Prop} (hK : ∀ s, Keeps σ' s → K s (.string (ofL [dig k]))) : pNew w0 5 [.int .u8 ((48 + k % 10 : Nat) : Int)] σ' (fun n s => pStr w0 (.slice (some (Addr.mk n 0 none)) 1 1) s (fun v => K s v)) := by
  intro b h1 h2
  refine pStr1 (by rw [get_row h1 put_at]; rfl) ?_
  rw [nums_dig]
  exact hK _ (Keeps.put h2)

theorem spec_l22Dec_nat : ∀ (k : Nat), k ≤ 9223372036854775807 → ∀ {σ : Vw} {R : Value → Vw → Prop}, (∀ σ', Keeps σ σ' → R (.string (decN k)) σ') → AC Tryz.prog w0 n_spec_l22Dec [.int .i64 (k : Nat)] σ R := by
  intro k
  induction k using Nat.strongRecOn with
  | _ k ih =>
    intro hk σ R hR
    refine ac_spec_l22Dec ?_
    unfold vc_spec_l22Dec
    rw [pBin_lt, pIf_d]
    refine ⟨fun h => by omega, fun _ => ?_⟩
    rw [pBin_lt, pIf_d]
    refine ⟨fun h => by omega, fun _ => ?_⟩
    rw [pBin_lt, pIf_d]
    refine ⟨fun h10 => ?_, fun h10 => ?_⟩
    · rw [pBin_add (by omega), pConv_u8 (by omega), pVal1 rfl, show (48 : Int) + (k : Nat) = ((48 + k % 10 : Nat) : Int) by omega]
      refine dec_row fun s k1 => ?_
      have := hR s k1
      rw [decN, decL_small (by omega)] at this
      exact this
    · have hb : ¬ k < 10 := by omega
      have hd := (decN_size (k / 10)).2
      rw [decN_big hb] at hR
      have hcat : ∀ K : Value → Prop, pBin Tryz.prog 9 .add (.string (decN (k / 10))) (.string (ofL [dig k])) K ↔ K (.string (decN (k / 10) ++ ofL [dig k])) := fun K => pBin_cat (by rw [size_ofL]; simp only [List.length_singleton]; omega)
      rw [pBin_quo (by omega), pBin_rem (by omega), pBin_add (by omega), pConv_u8 (by omega), show (48 : Int) + (k : Nat) % 10 = ((48 + k % 10 : Nat) : Int) by omega, show ((k : Nat) : Int) / 10 = ((k / 10 : Nat) : Int) by omega]
      refine ⟨ih (k / 10) (by omega) (by omega) fun s k1 => ?_, ?_⟩
      · rw [pVal1 rfl]
        refine dec_row fun s2 k2 => ?_
        rw [hcat]
        exact hR s2 (k1.trans k2)
      · rw [pVal1 rfl]
        refine dec_row fun s2 k2 => ?_
        refine ih (k / 10) (by omega) (by omega) fun s k1 => ⟨k1.ext, ?_⟩
        rw [hcat]
        exact hR s (k2.trans k1)

theorem spec_l22Dec {n : Int} {R : Value → Vw → Prop} (hn : -9223372036854775808 ≤ n ∧ n ≤ 9223372036854775807) (hR : ∀ σ', Keeps σ σ' → R (.string (decZ n)) σ') : AC Tryz.prog w0 n_spec_l22Dec [.int .i64 n] σ R := by
  by_cases h0 : 0 ≤ n
  · obtain ⟨k, rfl⟩ : ∃ k : Nat, n = k := ⟨n.toNat, by omega⟩
    rw [decZ_nat] at hR
    exact spec_l22Dec_nat k (by omega) hR
  refine ac_spec_l22Dec ?_
  unfold vc_spec_l22Dec
  rw [pBin_lt, pIf_d]
  refine ⟨fun h1 => ?_, fun h1 => ?_⟩
  · have : n = -9223372036854775808 := by omega
    subst this
    have := hR σ (Keeps.refl σ)
    rw [dec_min] at this
    exact this
  rw [pBin_lt, pIf_d]
  refine ⟨fun _ => ?_, fun h => by omega⟩
  rw [pUn_neg (by omega)]
  obtain ⟨k, hk⟩ : ∃ k : Nat, -n = k := ⟨(-n).toNat, by omega⟩
  rw [hk]
  have e : decZ n = ⟨#[45]⟩ ++ decN k := by
    unfold decZ
    rw [if_pos (by omega), hk, Int.toNat_natCast]
  rw [e] at hR
  refine spec_l22Dec_nat k (by omega) fun s k1 => ?_
  have hd := (decN_size k).2
  rw [pBin_cat (by show 1 + _ ≤ _; omega)]
  exact hR s k1

/-- The table that strconv reads stands as it is laid. -/
def Tab (w0 : World) : Prop := ∀ w, Below w0.heap.size w0 w → Lib.TabIs Tryz.prog w "internal/strconv.uint64pow10" .u64 Lib.pow10Tab
theorem itoa_decL : ∀ u : Nat, Lib.decDigits u = decL u := by
  intro u
  induction u using Nat.strongRecOn with
  | _ u ih =>
    rw [Lib.decDigits, decL]
    split
    · rename_i h
      congr 2
      omega
    · rw [ih (u / 10) (by omega)]; rfl
theorem itoa_dec (n : Int) : (⟨(Lib.itoa n).toArray⟩ : ByteArray) = decZ n := by
  show ofL (Lib.itoa n) = _
  unfold Lib.itoa decZ
  split
  · rw [itoa_decL, show (-n).toNat = n.natAbs by omega, decN]
    show ofL ([45] ++ decL n.natAbs) = ofL [45] ++ _
    rw [ofL_append]
  · rw [itoa_decL]; rfl
theorem strconv_Itoa (tab : Tab w0) {n : Int} {R : Value → Vw → Prop} (hn : -9223372036854775808 ≤ n ∧ n ≤ 9223372036854775807) (hR : R (.string (decZ n)) σ) : AC Tryz.prog w0 n_strconv_Itoa [.int .i64 n] σ R := by
  refine AC.of_calls is_strconv_Itoa fun w hw => ?_
  refine (Tryz.strconv_Itoa n hn.1 hn.2 w (tab w hw.bel)).mono ?_
  rintro e w' ⟨rfl, k, os, rfl⟩
  exact ⟨_, rfl, by rw [itoa_dec]; exact hR, Lib.below_grow _ _ (Nat.le_refl _) _ _⟩

/-! ### Blocks -/
def manyN (s : ByteArray) (size : Nat) : Nat := (s.size + size - 1) / size
def areaI (gen : Int) : Int := 14 + gen % 2 * 90
def pieceB (s : ByteArray) (i size : Nat) : ByteArray := s.extract (i * size) (min ((i + 1) * size) s.size)
def headB (gen : Int) (n : Nat) : ByteArray := ⟨#[67, 32]⟩ ++ decZ gen ++ ⟨#[32]⟩ ++ decN n

theorem lt_many {s : ByteArray} {size i : Nat} (h : 0 < size) : i < manyN s size ↔ i * size < s.size := by
  unfold manyN
  constructor
  · intro hi
    have : (i + 1) * size ≤ s.size + size - 1 := (Nat.le_div_iff_mul_le h).1 hi
    rw [Nat.add_mul, Nat.one_mul] at this
    omega
  · intro hi
    refine (Nat.le_div_iff_mul_le h).2 ?_
    show (i + 1) * size ≤ _
    rw [Nat.add_mul, Nat.one_mul]; omega
theorem piece_size (s : ByteArray) (i size : Nat) : (pieceB s i size).size ≤ size := by
  unfold pieceB
  rw [ByteArray.size_extract]
  have : (i + 1) * size = i * size + size := by rw [Nat.add_mul, Nat.one_mul]
  omega

theorem spec_l22Many {s : ByteArray} {size : Nat} {R : Value → Vw → Prop} (hs : s.size ≤ 1000000000000) (h : 0 < size ∧ size ≤ 1000) (hR : R (.int .i64 (manyN s size : Nat)) σ) : AC Tryz.prog w0 n_spec_l22Many [.string s, .int .i64 (size : Nat)] σ R := by
  refine ac_spec_l22Many ?_
  unfold vc_spec_l22Many
  rw [pLenS_s, pBin_add (by omega), pBin_sub (by omega), pBin_quo (by omega)]
  have : ((s.size : Int) + (size : Nat) - 1) / (size : Nat) = (manyN s size : Nat) := by
    unfold manyN
    rw [Int.natCast_ediv]
    congr 1; omega
  rw [this]; exact hR
theorem impl_pieces' {s : ByteArray} {size : Nat} {R : Value → Vw → Prop} (hs : s.size ≤ 1000000000000) (h : 0 < size ∧ size ≤ 1000) (hR : R (.int .i64 (manyN s size : Nat)) σ) : AC Tryz.prog w0 n_impl_pieces [.int .i64 s.size, .int .i64 (size : Nat)] σ R := by
  refine ac_impl_pieces ?_
  unfold vc_impl_pieces
  rw [pBin_add (by omega), pBin_sub (by omega), pBin_quo (by omega)]
  have : ((s.size : Int) + (size : Nat) - 1) / (size : Nat) = (manyN s size : Nat) := by
    unfold manyN
    rw [Int.natCast_ediv]
    congr 1; omega
  rw [this]; exact hR
theorem spec_l22Area {gen : Int} {R : Value → Vw → Prop} (hg : 0 ≤ gen ∧ gen ≤ 1000000) (hR : R (.int .i64 (areaI gen)) σ) : AC Tryz.prog w0 n_spec_l22Area [.int .i64 gen] σ R := by
  refine ac_spec_l22Area ?_
  unfold vc_spec_l22Area
  rw [pBin_rem (by omega), pBin_mul (by omega), pBin_add (by omega)]
  exact hR
theorem impl_areaFirst {gen : Int} {R : Value → Vw → Prop} (hg : 0 ≤ gen ∧ gen ≤ 1000000) (hR : R (.int .i64 (areaI gen)) σ) : AC Tryz.prog w0 n_impl_areaFirst [.int .i64 gen] σ R := by
  refine ac_impl_areaFirst ?_
  unfold vc_impl_areaFirst
  rw [pBin_rem (by omega), pBin_mul (by omega), pBin_add (by omega)]
  exact hR
theorem spec_l22Piece {s : ByteArray} {i size : Nat} {R : Value → Vw → Prop} (hs : s.size ≤ 1000000000000) (h : 0 < size ∧ size ≤ 1000) (hi : i * size < s.size) (hR : R (.string (pieceB s i size)) σ) : AC Tryz.prog w0 n_spec_l22Piece [.string s, .int .i64 (i : Nat), .int .i64 (size : Nat)] σ R := by
  refine ac_spec_l22Piece ?_
  unfold vc_spec_l22Piece
  have e : ((i : Nat) : Int) * (size : Nat) = ((i * size : Nat) : Int) := by rw [Int.natCast_mul]
  have e2 : (i + 1) * size = i * size + size := by rw [Nat.add_mul, Nat.one_mul]
  rw [pBin_mul (by rw [e]; omega), e, pLenS_s, pBin_ge, pIf_d]
  refine ⟨fun h => by omega, fun _ => ?_⟩
  rw [pBin_add (by omega), pLenS_s, pBin_gt, pIf_d]
  refine ⟨fun hgt => ?_, fun hgt => ?_⟩
  · refine pSliceStr_s (l := ((i * size : Nat) : Int)) (h := s.size) rfl rfl (by omega) ?_
    have : pieceB s i size = s.extract (i * size) s.size := by unfold pieceB; rw [e2, Nat.min_eq_right (by omega)]
    rw [this] at hR
    rw [Int.toNat_natCast, Int.toNat_natCast]
    exact hR
  · rw [pBin_add (by omega)]
    refine pSliceStr_s (l := ((i * size : Nat) : Int)) (h := ((i * size : Nat) : Int) + (size : Nat)) rfl rfl (by omega) ?_
    have : pieceB s i size = s.extract (i * size) (i * size + size) := by unfold pieceB; rw [e2, Nat.min_eq_left (by omega)]
    rw [this] at hR
    have e3 : (((i * size : Nat) : Int) + (size : Nat)).toNat = i * size + size := by omega
    rw [e3, Int.toNat_natCast]
    exact hR
end
end Go.Proofs.YtlfnfpdipghdiaaGreatDoor

/- The law 'DiskWrite'; how disks and writes are opened. -/
set_option linter.unusedVariables false
set_option linter.unusedSimpArgs false
namespace Go.Proofs.YtlfnfpdipghdiaaGreatDoor
open Go Go.Av Go.RowKit

section
variable {w0 : World} {σ : Vw}

end
end Go.Proofs.YtlfnfpdipghdiaaGreatDoor

/- Rows of our own: cells stored, an element taken out in place, the copy of two lists in any order. -/
set_option linter.unusedVariables false
set_option linter.unusedSimpArgs false
namespace Go.Av
open Go Go.RowKit

section
variable {P : Program} {w0 : World} {σ σ' : Vw} {α γ : Type}

theorem fresh_in {F F' : List Nat} {σ s : Vw} (k : Keeps σ s) (hF : ∀ i, i ∈ F → σ i = none) (h : ∀ i, i ∈ F' → i ∈ F ∨ s i = none) : ∀ i, i ∈ F' → σ i = none := fun i hi => by
  rcases h i hi with e | e
  · exact hF i e
  · cases hs : σ i with
    | none => rfl
    | some r => rw [k i r hs] at e; cases e
/-! ### An element is taken out, in place -/
end
end Go.Av

/- Checkpoints by either hand; 'StoreNew' and its law. -/
set_option linter.unusedVariables false
set_option linter.unusedSimpArgs false
namespace Go.Proofs.YtlfnfpdipghdiaaGreatDoor
open Go Go.Av Go.RowKit

def rng' (n : Int) : Prop := -9223372036854775808 ≤ n ∧ n ≤ 9223372036854775807
def savedP (gen : Int) (text : ByteArray) (n : Nat) : List Rw := (List.range n).map fun i => (areaI gen + (i : Nat), pieceB text i 64)
def savedR (gen : Int) (text : ByteArray) : List Rw := savedP gen text (manyN text 64) ++ [(gen % 2, headB gen text.size)]
theorem savedP_succ (gen : Int) (text : ByteArray) (n : Nat) : savedP gen text (n + 1) = savedP gen text n ++ [(areaI gen + (n : Nat), pieceB text n 64)] := by simp [savedP, List.range_succ]
theorem savedP_len (gen : Int) (text : ByteArray) (n : Nat) : (savedP gen text n).length = n := by simp [savedP]
theorem savedR_len (gen : Int) (text : ByteArray) : (savedR gen text).length = manyN text 64 + 1 := by simp [savedR, savedP_len]
theorem many64 {s : ByteArray} (h : s.size ≤ 5760) : manyN s 64 ≤ 90 := by unfold manyN; omega
theorem area_le {gen : Int} (h : 0 ≤ gen) : 14 ≤ areaI gen ∧ areaI gen ≤ 104 := by unfold areaI; omega
theorem head_size {gen : Int} {n : Nat} (hg : 0 ≤ gen ∧ gen ≤ 1000000) (hn : n ≤ 1000000) : (headB gen n).size ≤ 1000000 := by
  unfold headB
  have h1 := (decN_size n).2
  have h2 := (decN_size gen.toNat).2
  have e : decZ gen = decN gen.toNat := by unfold decZ; rw [if_neg (by omega)]
  rw [ByteArray.size_append, ByteArray.size_append, ByteArray.size_append, e]
  show 2 + _ + 1 + _ ≤ _
  omega
def newR (text : ByteArray) : List Rw × Bool := if text.size ≤ 5760 then (savedR 1 text, true) else ([], false)

section
variable {w0 : World} {σ : Vw}

theorem spec_l22Head {gen : Int} {text : ByteArray} {R : Value → Vw → Prop} (hg : 0 ≤ gen ∧ gen ≤ 1000000) (hs : text.size ≤ 1000000) (hR : ∀ σ', Keeps σ σ' → R (.string (headB gen text.size)) σ') : AC Tryz.prog w0 n_spec_l22Head [.int .i64 gen, .string text] σ R := by
  refine ac_spec_l22Head ?_
  unfold vc_spec_l22Head
  have h1 := (decN_size text.size).2
  have h2 := decZ_size (n := gen) (by omega)
  refine spec_l22Dec (by omega) fun s1 k1 => ?_
  rw [pBin_cat (by show 2 + _ ≤ _; omega), pBin_cat (by rw [ByteArray.size_append]; show 2 + _ + 1 ≤ _; omega), pLenS_s]
  refine spec_l22Dec_nat _ (by omega) fun s2 k2 => ?_
  rw [pBin_cat (by rw [ByteArray.size_append, ByteArray.size_append]; show 2 + _ + 1 + _ ≤ _; omega)]
  exact hR s2 (k1.trans k2)

theorem impl_checkHead (tab : Tab w0) {gen : Int} {n : Nat} {R : Value → Vw → Prop} (hg : 0 ≤ gen ∧ gen ≤ 1000000) (hs : n ≤ 1000000) (hR : R (.string (headB gen n)) σ) : AC Tryz.prog w0 n_impl_checkHead [.int .i64 gen, .int .i64 (n : Nat)] σ R := by
  refine ac_impl_checkHead ?_
  unfold vc_impl_checkHead
  have h1 := (decN_size n).2
  have h2 := decZ_size (n := gen) (by omega)
  refine strconv_Itoa tab (by omega) ?_
  rw [pBin_cat (by show 2 + _ ≤ _; omega), pBin_cat (by rw [ByteArray.size_append]; show 2 + _ + 1 ≤ _; omega)]
  refine strconv_Itoa tab (by omega) ?_
  rw [decZ_nat, pBin_cat (by rw [ByteArray.size_append, ByteArray.size_append]; show 2 + _ + 1 + _ ≤ _; omega)]
  exact hR

theorem raw_app {F : List Nat} {v : Value} {xs : List Rw} {a : Int} {t : ByteArray} (ho : OAcc w0 t_impl_Raw 2 ORaw σ F v xs) (ha : rng' a) (ht : t.size ≤ 9223372036854775807) (hl : xs.length ≤ 1000000) {K : Value → Vw → Prop}
    (hK : ∀ v' F' σ', KeepsBut F σ σ' → OAcc w0 t_impl_Raw 2 ORaw σ' F' v' (xs ++ [(a, t)]) → (∀ i, i ∈ F' → i ∈ F ∨ σ i = none) → K v' σ') :
    pVal false 1 (.int .i64 a) (pVal false 1 (.string t) (pVal true 2 (.agg ⟨[.int .i64 a, .string t]⟩) (allOne [.int .i64 a, .string t] ∧ pAppend w0 t_impl_Raw 2 24 v 1 [.int .i64 a, .string t] σ K))) := by
  rw [pVal1 rfl, pVal1 rfl, pVal_2 rfl rfl]
  refine ho.one (ok_raw w0) (f := []) (y := (a, t)) ⟨rfl, rfl, ha, ht⟩ (by simp) (by omega) (by omega) fun v' F' σ' k o f => hK v' F' σ' k o fun i hi => ?_
  rcases f i hi with h | h | h
  · exact .inl h
  · cases h
  · exact .inr h

theorem spec_l22Saved {gen : Int} {text : ByteArray} {R : Value → Vw → Prop} (hg : 0 ≤ gen ∧ gen ≤ 1000000) (hs : text.size ≤ 5760)
    (hR : ∀ v F σ', Keeps σ σ' → OAcc w0 t_impl_Raw 2 ORaw σ' F v (savedR gen text) → (∀ i, i ∈ F → σ i = none) → R v σ') : AC Tryz.prog w0 n_spec_l22Saved [.int .i64 gen, .string text] σ R := by
  refine ac_spec_l22Saved ?_
  unfold vc_spec_l22Saved
  intro b h1 h2
  have h90 := many64 hs
  have har := area_le hg.1
  have new := OAcc.new (w0 := w0) (σ := σ) (ety := t_impl_Raw) (n := 2) (O := ORaw) h1
  have fin : ∀ (v : Value) (F : List Nat) (s : Vw), Keeps σ s → (∀ i, i ∈ F → σ i = none) → OAcc w0 t_impl_Raw 2 ORaw s F v (savedP gen text (manyN text 64)) → pBin Tryz.prog 3 .rem (.int .i64 gen) (.int .i64 2) (fun v19 => AC Tryz.prog w0 n_spec_l22Head [.int .i64 gen, .string text] s (fun v20 s21 => pVal false 1 v19 (pVal false 1 v20 (pVal true 2 (.agg ⟨[v19, v20]⟩) ((allOne [v19, v20]) ∧ (pAppend w0 t_impl_Raw 2 24 v 1 [v19, v20] s21 (fun v22 s23 => R v22 s23))))))) := by
    intro v F s ks hF ho
    rw [pBin_rem (by omega)]
    refine spec_l22Head hg (by omega) fun s1 k1 => ?_
    have ho1 := ho.frame (ok_raw w0) (k1.but_at fun b hb => (ho.dom (ok_raw w0) b hb).2)
    refine raw_app ho1 (by unfold rng'; omega) (by have := head_size hg (show text.size ≤ 1000000 by omega); omega) (by rw [savedP_len]; omega) fun v' F' s2 k2 o2 f2 => ?_
    exact hR v' F' s2 (k2.old (ks.trans k1) hF) o2 (fresh_in (ks.trans k1) hF f2)
  refine loop_rule (m := manyN text 64) (fun m l s => ∃ (i : Nat) (v : Value) (F : List Nat), m + i = manyN text 64 ∧ Keeps σ s ∧ (∀ j, j ∈ F → σ j = none) ∧ OAcc w0 t_impl_Raw 2 ORaw s F v (savedP gen text i) ∧ l = [.int .i64 gen, .string text, v, .int .i64 (i : Nat)]) ?_
    ⟨0, _, [b], by omega, Keeps.put h2, (fun j hj => by rw [List.mem_singleton.1 hj]; exact h2), by simpa [savedP] using new, rfl⟩
  rintro m l s L ⟨i, v, F, hm, ks, hF, ho, rfl⟩ hL
  simp only [vget, List.getD_cons_zero, List.getD_cons_succ]
  refine spec_l22Many (size := 64) (by omega) (by omega) ?_
  rw [pBin_lt, pIf_d]
  refine ⟨fun hi => ?_, fun hi => ?_⟩
  · refine spec_l22Area hg ?_
    rw [pBin_add (by omega)]
    refine spec_l22Piece (size := 64) (by omega) (by omega) ((lt_many (by omega)).1 (by omega)) ?_
    have hps := piece_size text i 64
    refine raw_app ho (by unfold rng'; omega) (by omega) (by rw [savedP_len]; omega) fun v' F' s2 k2 o2 f2 => ?_
    rw [pBin_add (by omega)]
    rw [← savedP_succ] at o2
    exact hL _ _ (m - 1) (by omega) ⟨i + 1, v', F', by omega, k2.old ks hF, fresh_in ks hF f2, o2, by simp⟩
  · have e : i = manyN text 64 := by omega
    subst e
    exact fin v F s ks hF ho

theorem impl_checkpoint (tab : Tab w0) {gen : Int} {text : ByteArray} {R : Value → Vw → Prop} (hg : 0 ≤ gen ∧ gen ≤ 1000000) (hs : text.size ≤ 5760)
    (hR : ∀ v F σ', Keeps σ σ' → OAcc w0 t_impl_Raw 2 ORaw σ' F v (savedR gen text) → (∀ i, i ∈ F → σ i = none) → R v σ') : AC Tryz.prog w0 n_impl_checkpoint [.int .i64 gen, .string text] σ R := by
  refine ac_impl_checkpoint ?_
  unfold vc_impl_checkpoint
  intro b h1 h2
  have h90 := many64 hs
  have har := area_le hg.1
  have new := OAcc.new (w0 := w0) (σ := σ) (ety := t_impl_Raw) (n := 2) (O := ORaw) h1
  rw [pLenS_s]
  refine impl_pieces' (size := 64) (by omega) (by omega) ?_
  refine loop_rule (m := manyN text 64) (fun m l s => ∃ (i : Nat) (v : Value) (F : List Nat), m + i = manyN text 64 ∧ Keeps σ s ∧ (∀ j, j ∈ F → σ j = none) ∧ OAcc w0 t_impl_Raw 2 ORaw s F v (savedP gen text i) ∧ l = [.int .i64 gen, .string text, v, .int .i64 (manyN text 64 : Nat), .int .i64 (i : Nat)]) ?_
    ⟨0, _, [b], by omega, Keeps.put h2, (fun j hj => by rw [List.mem_singleton.1 hj]; exact h2), by simpa [savedP] using new, rfl⟩
  rintro m l s L ⟨i, v, F, hm, ks, hF, ho, rfl⟩ hL
  simp only [vget, List.getD_cons_zero, List.getD_cons_succ]
  rw [pBin_lt, pIf_d]
  refine ⟨fun hi => ?_, fun hi => ?_⟩
  · have hlt := (lt_many (s := text) (size := 64) (i := i) (by omega)).1 (by omega)
    rw [pBin_add (by omega), pBin_mul (by omega), pLenS_s, pMin_s, pBin_mul (by omega)]
    refine pSliceStr_s (l := (i : Int) * 64) (h := min (((i : Int) + 1) * 64) text.size) rfl rfl (by omega) ?_
    have hp : text.extract ((i : Int) * 64).toNat (min (((i : Int) + 1) * 64) text.size).toNat = pieceB text i 64 := by
      unfold pieceB
      congr 1 <;> omega
    rw [hp]
    refine impl_areaFirst hg ?_
    rw [pBin_add (by omega)]
    have hps := piece_size text i 64
    refine raw_app ho (by unfold rng'; omega) (by omega) (by rw [savedP_len]; omega) fun v' F' s2 k2 o2 f2 => ?_
    rw [pBin_add (by omega)]
    rw [← savedP_succ] at o2
    exact hL _ _ (m - 1) (by omega) ⟨i + 1, v', F', by omega, k2.old ks hF, fresh_in ks hF f2, o2, by simp⟩
  · have e : i = manyN text 64 := by omega
    subst e
    show pBin Tryz.prog 3 .rem (.int .i64 gen) (.int .i64 2) _
    rw [pBin_rem (by omega), pLenS_s]
    refine impl_checkHead tab hg (by omega) ?_
    refine raw_app ho (by unfold rng'; omega) (by have := head_size hg (show text.size ≤ 1000000 by omega); omega) (by rw [savedP_len]; omega) fun v' F' s2 k2 o2 f2 => ?_
    exact hR v' F' s2 (k2.old ks hF) o2 (fresh_in ks hF f2)

theorem raw_new {b : Nat} (hb : w0.heap.size ≤ b) {ety : Nat} : OSl w0 2 ORaw (σ.put b ⟨ety, [], 0, (0, 0)⟩) [b] (.slice (some ⟨b, 0, none⟩) 0 0) [] := (OAcc.new (w0 := w0) (σ := σ) (ety := ety) (n := 2) (O := ORaw) hb).osl

theorem spec_l22TextOk {text : ByteArray} {R : Value → Vw → Prop} (hR : R (.bool (decide (text.size ≤ 5760))) σ) : AC Tryz.prog w0 n_spec_l22TextOk [.string text] σ R := by
  refine ac_spec_l22TextOk ?_
  unfold vc_spec_l22TextOk
  rw [pLenS_s, pBin_le]
  have e : decide ((text.size : Int) ≤ 5760) = decide (text.size ≤ 5760) := by congr 1; apply propext; omega
  rw [e]; exact hR
theorem spec_StoreNew {text : ByteArray} {R : Value → Vw → Prop} (hR : ∀ v F σ', Keeps σ σ' → OSl w0 2 ORaw σ' F v (newR text).1 → (∀ i, i ∈ F → σ i = none) → R (.tuple ⟨[v, .bool (newR text).2]⟩) σ') : AC Tryz.prog w0 n_spec_StoreNew [.string text] σ R := by
  refine ac_spec_StoreNew ?_
  unfold vc_spec_StoreNew
  refine spec_l22TextOk ?_
  rw [pUn_not, pIf_b]
  refine ⟨fun h => ?_, fun h => ?_⟩
  · have e : newR text = ([], false) := by simp at h; simp [newR, show ¬ text.size ≤ 5760 by omega]
    rw [e] at hR
    intro b h1 h2
    exact hR _ [b] _ (Keeps.put h2) (raw_new h1) fun i hi => by rw [List.mem_singleton.1 hi]; exact h2
  · have hs : text.size ≤ 5760 := by simp at h; omega
    have e : newR text = (savedR 1 text, true) := by simp [newR, hs]
    rw [e] at hR
    exact spec_l22Saved (by omega) hs fun v F s k o f => hR v F s k o.osl f

theorem impl_StoreNew (tab : Tab w0) {text : ByteArray} {R : Value → Vw → Prop} (hR : ∀ v F σ', Keeps σ σ' → OSl w0 2 ORaw σ' F v (newR text).1 → (∀ i, i ∈ F → σ i = none) → R (.tuple ⟨[v, .bool (newR text).2]⟩) σ') : AC Tryz.prog w0 n_impl_StoreNew [.string text] σ R := by
  refine ac_impl_StoreNew ?_
  unfold vc_impl_StoreNew
  rw [pLenS_s, pBin_gt, pIf_d]
  refine ⟨fun h => ?_, fun h => ?_⟩
  · have e : newR text = ([], false) := by simp [newR, show ¬ text.size ≤ 5760 by omega]
    rw [e] at hR
    intro b h1 h2
    exact hR _ [b] _ (Keeps.put h2) (raw_new h1) fun i hi => by rw [List.mem_singleton.1 hi]; exact h2
  · have hs : text.size ≤ 5760 := by omega
    have e : newR text = (savedR 1 text, true) := by simp [newR, hs]
    rw [e] at hR
    exact impl_checkpoint tab (by omega) hs fun v F s k o f => hR v F s k o.osl f

theorem newR_len (text : ByteArray) : (newR text).1.length ≤ 91 := by
  unfold newR
  split
  · rename_i h
    rw [savedR_len]
    have := many64 h
    omega
  · simp

end
end Go.Proofs.YtlfnfpdipghdiaaGreatDoor

/- Stores: a group is appended, a checkpoint is saved: by either hand. -/
set_option linter.unusedVariables false
set_option linter.unusedSimpArgs false
namespace Go.Proofs.YtlfnfpdipghdiaaGreatDoor
open Go Go.Av Go.RowKit

/-- A store: its number, its text, its groups, the next free block of the log. -/
abbrev Sto := Int × ByteArray × List ByteArray × Int
def RSto (rd : Addr → Option Value) (es : List Value) (x : Sto) : Prop := ∃ v, es = [.int .i64 x.1, .string x.2.1, v, .int .i64 x.2.2.2] ∧ RSl 1 RS rd v x.2.2.1 ∧ rng' x.1 ∧ x.2.1.size ≤ 9223372036854775807 ∧ rng' x.2.2.2
def OSto (w0 : World) (σ : Vw) (F : List Nat) (es : List Value) (x : Sto) : Prop := ∃ v, es = [.int .i64 x.1, .string x.2.1, v, .int .i64 x.2.2.2] ∧ OStrs w0 σ F v x.2.2.1 ∧ rng' x.1 ∧ x.2.1.size ≤ 9223372036854775807 ∧ rng' x.2.2.2
def blkN (g : ByteArray) : Nat := 1 + manyN g 63
def grpOk (gs : List ByteArray) : Bool := gs.all fun g => decide (g.size ≤ 600)
def stOk (x : Sto) : Bool := grpOk x.2.2.1 && (inB x.1 1 99999 && (decide (x.2.1.size ≤ 5760) && (decide (((sumBy blkN x.2.2.1 : Nat) : Int) = x.2.2.2) && decide (((sumBy blkN x.2.2.1 : Nat) : Int) ≤ 12))))
def gheadB (gen : Int) (k n : Nat) : ByteArray := ⟨#[72, 32]⟩ ++ decZ gen ++ ⟨#[32]⟩ ++ decN k ++ ⟨#[32]⟩ ++ decN n
def apP (next : Int) (g : ByteArray) (n : Nat) : List Rw := (List.range n).map fun i => (2 + next + 1 + (i : Nat), ⟨#[68]⟩ ++ pieceB g i 63)
def appR (x : Sto) (g : ByteArray) : List Rw × Sto × Int :=
  if stOk x = false then ([], (0, ⟨#[]⟩, [], 0), 1)
  else if 600 < g.size then ([], x, 6)
  else if 12 < x.2.2.2 + (blkN g : Nat) then ([], x, 4)
  else (apP x.2.2.2 g (manyN g 63) ++ [(2 + x.2.2.2, gheadB x.1 x.2.2.1.length g.size)], (x.1, x.2.1, x.2.2.1 ++ [g], x.2.2.2 + (blkN g : Nat)), 0)
def saveR (x : Sto) (t : ByteArray) : List Rw × Sto × Int :=
  if stOk x = false then ([], (0, ⟨#[]⟩, [], 0), 1)
  else if 5760 < t.size then ([], x, 4)
  else if 99999 ≤ x.1 then ([], x, 5)
  else (savedR (x.1 + 1) t, (x.1 + 1, t, [], 0), 0)

theorem apP_succ (next : Int) (g : ByteArray) (n : Nat) : apP next g (n + 1) = apP next g n ++ [(2 + next + 1 + (n : Nat), ⟨#[68]⟩ ++ pieceB g n 63)] := by simp [apP, List.range_succ]
theorem apP_len (next : Int) (g : ByteArray) (n : Nat) : (apP next g n).length = n := by simp [apP]
theorem many63 {s : ByteArray} (h : s.size ≤ 600) : manyN s 63 ≤ 10 := by unfold manyN; omega
theorem blk_le {s : ByteArray} (h : s.size ≤ 1000000000) : blkN s ≤ 1000000000 := by unfold blkN manyN; omega
theorem blk_600 {s : ByteArray} (h : s.size ≤ 600) : 1 ≤ blkN s ∧ blkN s ≤ 11 := by have := many63 h; unfold blkN; omega
theorem blk_sum : ∀ {gs : List ByteArray}, (∀ y, y ∈ gs → y.size ≤ 600) → gs.length ≤ sumBy blkN gs ∧ sumBy blkN gs ≤ 11 * gs.length
  | [], _ => by simp [sumBy]
  | y :: gs, h => by
    have h1 := blk_600 (h y (by simp))
    have h2 := blk_sum (gs := gs) fun z hz => h z (by simp [hz])
    simp only [sumBy, List.length_cons]; omega
theorem grpOk_iff {gs : List ByteArray} : grpOk gs = true ↔ ∀ y, y ∈ gs → y.size ≤ 600 := by simp [grpOk]
theorem stOk_all {gen next : Int} {text : ByteArray} {gs : List ByteArray} (h : ∀ y, y ∈ gs → y.size ≤ 600) : stOk (gen, text, gs, next) = (inB gen 1 99999 && (decide (text.size ≤ 5760) && (decide (((sumBy blkN gs : Nat) : Int) = next) && decide (((sumBy blkN gs : Nat) : Int) ≤ 12)))) := by
  simp [stOk, grpOk_iff.2 h]
theorem stOk_no {gen next : Int} {text : ByteArray} {gs : List ByteArray} {y : ByteArray} (h : y ∈ gs) (hy : 600 < y.size) : stOk (gen, text, gs, next) = false := by
  cases hc : grpOk gs with
  | false => simp [stOk, hc]
  | true => have := grpOk_iff.1 hc y h; omega
theorem stOk_of {x : Sto} (h : stOk x = true) : (∀ y, y ∈ x.2.2.1 → y.size ≤ 600) ∧ (1 ≤ x.1 ∧ x.1 ≤ 99999) ∧ x.2.1.size ≤ 5760 ∧ (0 ≤ x.2.2.2 ∧ x.2.2.2 ≤ 12) ∧ x.2.2.1.length ≤ 12 := by
  simp only [stOk, Bool.and_eq_true, decide_eq_true_eq, grpOk_iff, inB] at h
  have := (blk_sum h.1).1
  exact ⟨h.1, h.2.1, h.2.2.1, by omega, by omega⟩
theorem mem_take_succ {α : Type} {xs : List α} {j : Nat} {x : α} (hj : xs[j]? = some x) {p : α → Prop} (h : ∀ y, y ∈ xs.take j → p y) (hx : p x) : ∀ y, y ∈ xs.take (j + 1) → p y := by
  intro y hy
  rw [List.take_add_one, hj] at hy
  rcases List.mem_append.1 hy with e | e
  · exact h y e
  · simp at e; rw [e]; exact hx

section
variable {w0 : World} {σ : Vw}

theorem pVal_4 {a b c d : Value} {A : Prop} (h1 : a.oneCell' = true) (h2 : b.oneCell' = true) (h3 : c.oneCell' = true) (h4 : d.oneCell' = true) : pVal true 4 (.agg ⟨[a, b, c, d]⟩) A ↔ A := pValN rfl (by simp [h1, h2, h3, h4])

theorem ok_sto (w0 : World) : OOk w0 4 RSto (OSto w0) := by
  refine ⟨?_, ?_, ?_, ?_, ?_, ?_⟩
  · rintro σ F es x ⟨v, h1, h2, h3⟩; exact ⟨v, h1, h2.rel (ok_str w0), h3⟩
  · rintro σ σ' F es x ⟨v, h1, h2, h3⟩ hF; exact ⟨v, h1, h2.frame (ok_str w0) hF, h3⟩
  · rintro σ F es x ⟨v, h1, h2, h3⟩; exact h2.dom (ok_str w0)
  · rintro σ F es x ⟨v, h1, h2, h3⟩; exact h2.2.1
  · rintro σ F es x ⟨v, rfl, h2, h3⟩; rfl
  · rintro σ F es x ⟨v, rfl, h2, h3⟩ c hc
    simp at hc
    rcases hc with rfl | rfl | rfl | rfl
    · rfl
    · rfl
    · exact OSl.one' h2
    · rfl
theorem mono_sto {rd rd' : Addr → Option Value} {es : List Value} {x : Sto} (hl : Le rd rd') (h : RSto rd es x) : RSto rd' es x := by
  obtain ⟨v, h1, h2, h3⟩ := h; exact ⟨v, h1, h2.mono hl fun _ _ h => h, h3⟩
theorem RSto.four {rd : Addr → Option Value} {es : List Value} {x : Sto} (h : RSto rd es x) {A : Prop} : pVal true 4 (.agg ⟨es⟩) A ↔ A := by
  obtain ⟨v, rfl, h2, _⟩ := h; exact pVal_4 rfl rfl h2.one rfl
theorem RSto.shape {rd : Addr → Option Value} {es : List Value} {x : Sto} (h : RSto rd es x) : ∃ v, es = [.int .i64 x.1, .string x.2.1, v, .int .i64 x.2.2.2] := by obtain ⟨v, h1, _⟩ := h; exact ⟨v, h1⟩
theorem spec_l21In {n lo hi : Int} {R : Value → Vw → Prop} (hR : R (.bool (inB n lo hi)) σ) : AC Tryz.prog w0 n_spec_l21In [.int .i64 n, .int .i64 lo, .int .i64 hi] σ R := by
  refine ac_spec_l21In ?_
  unfold vc_spec_l21In
  rw [pBin_ge, pIf_d]
  refine ⟨fun h => ?_, fun h => ?_⟩
  · rw [pBin_le]
    have : inB n lo hi = decide (n ≤ hi) := by simp [inB, h]
    rw [this] at hR; exact hR
  · have : inB n lo hi = false := by simp [inB, h]
    rw [this] at hR; exact hR
theorem spec_l22Blocks {s : ByteArray} {R : Value → Vw → Prop} (hs : s.size ≤ 1000000000) (hR : R (.int .i64 (blkN s : Nat)) σ) : AC Tryz.prog w0 n_spec_l22Blocks [.string s] σ R := by
  refine ac_spec_l22Blocks ?_
  unfold vc_spec_l22Blocks
  have h1 := blk_le hs
  have e : ((blkN s : Nat) : Int) = 1 + (manyN s 63 : Nat) := by unfold blkN; omega
  refine spec_l22Many (size := 63) (by omega) (by omega) ?_
  rw [pBin_add (by omega), ← e]
  exact hR
theorem impl_groupBlocks {s : ByteArray} {R : Value → Vw → Prop} (hs : s.size ≤ 1000000000) (hR : R (.int .i64 (blkN s : Nat)) σ) : AC Tryz.prog w0 n_impl_groupBlocks [.int .i64 s.size] σ R := by
  refine ac_impl_groupBlocks ?_
  unfold vc_impl_groupBlocks
  have h1 := blk_le hs
  have e : ((blkN s : Nat) : Int) = 1 + (manyN s 63 : Nat) := by unfold blkN; omega
  refine impl_pieces' (size := 63) (by omega) (by omega) ?_
  rw [pBin_add (by omega), ← e]
  exact hR

theorem spec_l22Ok {es : List Value} {x : Sto} (h : RSto (Av.get w0 σ) es x) (hl : x.2.2.1.length ≤ 1000000000) {R : Value → Vw → Prop} (hR : R (.bool (stOk x)) σ) : AC Tryz.prog w0 n_spec_l22Ok [.agg ⟨es⟩] σ R := by
  obtain ⟨gen, text, gs, next⟩ := x
  obtain ⟨v, rfl, hv, hg, ht, hn⟩ := h
  simp only at hv hg ht hn hl
  refine ac_spec_l22Ok ?_
  unfold vc_spec_l22Ok
  rw [pVal_4 rfl rfl hv.one rfl]
  simp only [cellOf_agg, List.getD_cons_zero, List.getD_cons_succ]
  refine loop_rule (m := gs.length) (fun m l s => ∃ j : Nat, s = σ ∧ m + j = gs.length ∧ (∀ y, y ∈ gs.take j → y.size ≤ 600) ∧ l = [.bool false, .int .i64 (sumBy blkN (gs.take j) : Nat), .int .i64 (j : Nat), .int .i64 gen, .string text, v, .int .i64 next]) ?_ ⟨0, rfl, by omega, by simp, rfl⟩
  rintro m l s L ⟨j, rfl, hm, hj, rfl⟩ hL
  simp only [vget, List.getD_cons_zero, List.getD_cons_succ]
  have hsum := blk_sum hj
  rw [List.length_take] at hsum
  rw [hv.len, pBin_lt, pIf_d]
  refine ⟨fun hi => ?_, fun hi => ?_⟩
  · have hx := List.getElem?_eq_getElem (show j < gs.length by omega)
    generalize hxi : gs[j]'(by omega) = y at hx
    refine hv.at hx fun g hg => ?_
    obtain ⟨hg, hs⟩ := hg
    simp only [expl, List.cons.injEq, and_true] at hg
    rw [hg, pLenS_s, pBin_gt, pIf_d]
    refine ⟨fun hgt => ?_, fun hle => ?_⟩
    · rw [stOk_no (List.mem_of_getElem? hx) (by omega)] at hR; exact hR
    · have hb := blk_600 (s := y) (by omega)
      refine hv.at hx fun g' hg' => ?_
      obtain ⟨hg', _⟩ := hg'
      simp only [expl, List.cons.injEq, and_true] at hg'
      rw [hg']
      refine spec_l22Blocks (by omega) ?_
      rw [pBin_add (by omega), pBin_add (by omega)]
      refine hL _ _ (m - 1) (by omega) ⟨j + 1, rfl, by omega, mem_take_succ hx hj (by omega), ?_⟩
      rw [sumBy_take hx]; simp
  · have e : j = gs.length := by omega
    subst e
    rw [List.take_length] at hj ⊢
    rw [stOk_all hj] at hR
    refine spec_l21In ?_
    rw [pIf_b]
    refine ⟨fun h1 => ?_, fun h1 => by rw [h1] at hR; exact hR⟩
    rw [h1] at hR
    refine spec_l22TextOk ?_
    rw [pIf_b]
    refine ⟨fun h2 => ?_, fun h2 => by rw [h2] at hR; exact hR⟩
    rw [h2] at hR
    rw [pBin_eq, pIf_b]
    refine ⟨fun h3 => ?_, fun h3 => by rw [h3] at hR; exact hR⟩
    rw [h3] at hR
    rw [pBin_le]
    exact hR

theorem copy_core {gen next : Int} {text : ByteArray} {v : Value} {gs : List ByteArray} (hv : RSl 1 RS (Av.get w0 σ) v gs) (hl : gs.length ≤ 1000000000) {R : Value → Vw → Prop}
    (hR : ∀ v' F σ', Keeps σ σ' → OAcc w0 t_string 1 OStr σ' F v' gs → (∀ b, b ∈ F → σ b = none) → R (.agg ⟨[.int .i64 gen, .string text, v', .int .i64 next]⟩) σ') :
    pNew w0 t_string [] σ (fun n0 s1 => pAppendS w0 t_string 1 16 (.slice (some (Addr.mk n0 0 none)) 0 0) v s1 (fun v2 s3 => pVal false 1 v2 (pVal true 4 (.agg ⟨[.int .i64 gen, .string text, v2, .int .i64 next]⟩) (R (.agg ⟨[.int .i64 gen, .string text, v2, .int .i64 next]⟩) s3)))) := by
  intro b h1 h2
  have ha := OAcc.new (w0 := w0) (σ := σ) (ety := t_string) (n := 1) (O := OStr) h1
  have kb : Keeps σ (σ.put b ⟨t_string, [], 0, (0, 0)⟩) := Keeps.put h2
  have hb0 : ∀ i, i ∈ [b] → σ i = none := fun i hi => by rw [List.mem_singleton.1 hi]; exact h2
  refine ha.all (ok_str w0) hv kb.le (fun es y hy => ⟨rfl, hy⟩) (by simp; omega) (by omega) fun v' F' σ' k1 o1 f1 => ?_
  rw [pVal1 (OSl.one' o1.osl), pVal_4 rfl rfl (OSl.one' o1.osl) rfl]
  exact hR v' F' σ' (k1.old kb hb0) (by simpa using o1) (fresh_in kb hb0 f1)
theorem spec_l22Copy {gen next : Int} {text : ByteArray} {v : Value} {gs : List ByteArray} (hv : RSl 1 RS (Av.get w0 σ) v gs) (hl : gs.length ≤ 1000000000) {R : Value → Vw → Prop}
    (hR : ∀ v' F σ', Keeps σ σ' → OAcc w0 t_string 1 OStr σ' F v' gs → (∀ b, b ∈ F → σ b = none) → R (.agg ⟨[.int .i64 gen, .string text, v', .int .i64 next]⟩) σ') : AC Tryz.prog w0 n_spec_l22Copy [.agg ⟨[.int .i64 gen, .string text, v, .int .i64 next]⟩] σ R := by
  refine ac_spec_l22Copy ?_
  unfold vc_spec_l22Copy
  rw [pVal_4 rfl rfl hv.one rfl]
  exact copy_core hv hl hR
end
end Go.Proofs.YtlfnfpdipghdiaaGreatDoor

/- 'StoreAppend' and 'StoreSave' by either hand, and their laws. -/
set_option linter.unusedVariables false
set_option linter.unusedSimpArgs false
namespace Go.Proofs.YtlfnfpdipghdiaaGreatDoor
open Go Go.Av Go.RowKit

section
variable {w0 : World} {σ : Vw}

theorem none_atI {σ s : Vw} (k : Keeps σ s) {i : Nat} (h : s i = none) : σ i = none := by
  cases hs : σ i with
  | none => rfl
  | some r => rw [k i r hs] at h; cases h
theorem nil_sto : OSto w0 σ [] [.int .i64 0, .string ⟨#[]⟩, .slice none 0 0, .int .i64 0] (0, ⟨#[]⟩, [], 0) :=
  ⟨_, rfl, ⟨by simp, by simp, .inl ⟨rfl, rfl, rfl⟩⟩, by unfold rng'; simp, by simp [ByteArray.size], by unfold rng'; simp⟩
theorem ghead_size {gen : Int} {k n : Nat} (hg : 0 ≤ gen ∧ gen ≤ 1000000) (hk : k ≤ 1000000) (hn : n ≤ 1000000) : (gheadB gen k n).size ≤ 1000000 := by
  unfold gheadB
  have h1 := (decN_size n).2
  have h2 := (decN_size k).2
  have h3 := (decN_size gen.toNat).2
  have e : decZ gen = decN gen.toNat := by unfold decZ; rw [if_neg (by omega)]
  simp only [ByteArray.size_append, e]
  show 2 + _ + 1 + _ + 1 + _ ≤ _
  omega

theorem spec_ghead {gen : Int} {k n : Nat} {K : Value → Vw → Prop} (hg : 0 ≤ gen ∧ gen ≤ 1000000) (hk : k ≤ 1000000) (hn : n ≤ 1000000) (hK : ∀ s, Keeps σ s → K (.string (gheadB gen k n)) s) :
    AC Tryz.prog w0 n_spec_l22Dec [.int .i64 gen] σ (fun v63 s64 => pBin Tryz.prog 9 BinOp.add (Value.string ({ data := #[72, 32] })) v63 (fun v65 => pBin Tryz.prog 9 BinOp.add v65 (Value.string ({ data := #[32] })) (fun v66 => AC Tryz.prog w0 n_spec_l22Dec [.int .i64 (k : Nat)] s64 (fun v67 s68 => pBin Tryz.prog 9 BinOp.add v66 v67 (fun v69 => pBin Tryz.prog 9 BinOp.add v69 (Value.string ({ data := #[32] })) (fun v70 => AC Tryz.prog w0 n_spec_l22Dec [.int .i64 (n : Nat)] s68 (fun v71 s72 => pBin Tryz.prog 9 BinOp.add v70 v71 (fun v73 => K v73 s72)))))))) := by
  have h1 := (decN_size n).2
  have h2 := (decN_size k).2
  have h3 := decZ_size (n := gen) (by omega)
  refine spec_l22Dec (by omega) fun s1 k1 => ?_
  rw [pBin_cat (by show 2 + _ ≤ _; omega), pBin_cat (by rw [ByteArray.size_append]; show 2 + _ + 1 ≤ _; omega)]
  refine spec_l22Dec_nat _ (by omega) fun s2 k2 => ?_
  rw [pBin_cat (by simp only [ByteArray.size_append]; show 2 + _ + 1 + _ ≤ _; omega), pBin_cat (by simp only [ByteArray.size_append]; show 2 + _ + 1 + _ + 1 ≤ _; omega)]
  refine spec_l22Dec_nat _ (by omega) fun s3 k3 => ?_
  rw [pBin_cat (by simp only [ByteArray.size_append]; show 2 + _ + 1 + _ + 1 + _ ≤ _; omega)]
  exact hK s3 ((k1.trans k2).trans k3)
theorem str_app {F : List Nat} {v : Value} {xs : List ByteArray} {g : ByteArray} (ho : OAcc w0 t_string 1 OStr σ F v xs) (hg : g.size ≤ 9223372036854775807) (hl : xs.length ≤ 1000000) {K : Value → Vw → Prop}
    (hK : ∀ v' F' σ', KeepsBut F σ σ' → OAcc w0 t_string 1 OStr σ' F' v' (xs ++ [g]) → (∀ i, i ∈ F' → i ∈ F ∨ σ i = none) → K v' σ') :
    pVal false 1 (.string g) (allOne [.string g] ∧ pAppend w0 t_string 1 16 v 1 [.string g] σ K) := by
  rw [pVal1 rfl]
  refine ho.one (ok_str w0) (f := []) (y := g) ⟨rfl, rfl, hg⟩ (by simp) (by omega) (by omega) fun v' F' σ' k o f => hK v' F' σ' k o fun i hi => ?_
  rcases f i hi with h | h | h
  · exact .inl h
  · cases h
  · exact .inr h

/-- What a caller learns of the three results. -/
abbrev Out (w0 : World) (σ : Vw) (y : List Rw × Sto × Int) (R : Value → Vw → Prop) : Prop :=
  ∀ v es' F G σ', Keeps σ σ' → OSl w0 2 ORaw σ' F v y.1 → OSto w0 σ' G es' y.2.1 → (∀ b, b ∈ F → σ b = none) → (∀ b, b ∈ G → σ b = none) → (∀ b, b ∈ F → b ∉ G) → R (.tuple ⟨[v, .agg ⟨es'⟩, .int .i64 y.2.2]⟩) σ'

/-- Refused: nothing to write, and a copy. -/
theorem out_copy {b : Nat} {x : Sto} {c : Int} {R : Value → Vw → Prop} (hR : Out w0 σ ([], x, c) R) (h1 : w0.heap.size ≤ b) (h2 : σ b = none) (hx : rng' x.1 ∧ x.2.1.size ≤ 9223372036854775807 ∧ rng' x.2.2.2)
    {v' : Value} {F : List Nat} {s : Vw} (k : Keeps (σ.put b ⟨t_impl_Raw, [], 0, (0, 0)⟩) s) (o : OAcc w0 t_string 1 OStr s F v' x.2.2.1) (f : ∀ i, i ∈ F → (σ.put b ⟨t_impl_Raw, [], 0, (0, 0)⟩) i = none) :
    pVal true 4 (.agg ⟨[.int .i64 x.1, .string x.2.1, v', .int .i64 x.2.2.2]⟩) (R (.tuple ⟨[.slice (some (Addr.mk b 0 none)) 0 0, .agg ⟨[.int .i64 x.1, .string x.2.1, v', .int .i64 x.2.2.2]⟩, .int .i64 c]⟩) s) := by
  rw [pVal_4 rfl rfl (OSl.one' o.osl) rfl]
  have kb : Keeps σ (σ.put b ⟨t_impl_Raw, [], 0, (0, 0)⟩) := Keeps.put h2
  have n0 := raw_new (σ := σ) (ety := t_impl_Raw) h1
  refine hR _ _ [b] F s (kb.trans k) (n0.frame (ok_raw w0) (k.but_at fun i hi => (n0.dom (ok_raw w0) i hi).2)) ⟨v', rfl, o.osl, hx⟩ (fun i hi => by rw [List.mem_singleton.1 hi]; exact h2) (fun i hi => none_atI kb (f i hi)) fun i hi hi' => ?_
  exact (n0.dom (ok_raw w0) i hi).2 (f i hi')

theorem spec_StoreAppend {es : List Value} {x : Sto} {g : ByteArray} (h : RSto (Av.get w0 σ) es x) (hl : x.2.2.1.length ≤ 1000000000) (hs : g.size ≤ 1000000000) {R : Value → Vw → Prop} (hR : Out w0 σ (appR x g) R) : AC Tryz.prog w0 n_spec_StoreAppend [.agg ⟨es⟩, .string g] σ R := by
  have h0 := h
  obtain ⟨gen, text, gs, next⟩ := x
  obtain ⟨v, rfl, hv, hx⟩ := h
  simp only at hv hx hl
  refine ac_spec_StoreAppend ?_
  unfold vc_spec_StoreAppend cs_spec_StoreAppend_1
  rw [pVal_4 rfl rfl hv.one rfl]
  simp only [cellOf_agg, List.getD_cons_zero, List.getD_cons_succ]
  intro b h1 h2
  have kb : Keeps σ (σ.put b ⟨t_impl_Raw, [], 0, (0, 0)⟩) := Keeps.put h2
  have hb0 : ∀ i, i ∈ [b] → σ i = none := fun i hi => by rw [List.mem_singleton.1 hi]; exact h2
  refine spec_l22Ok (mono_sto kb.le h0) hl ?_
  rw [pUn_not, pIf_b]
  refine ⟨fun hno => ?_, fun hyes => ?_⟩
  · have e : appR (gen, text, gs, next) g = ([], (0, ⟨#[]⟩, [], 0), 1) := by simp at hno; simp [appR, hno]
    rw [e] at hR
    rw [pVal_4 rfl rfl rfl rfl]
    exact hR _ _ [b] [] _ kb (raw_new h1) nil_sto hb0 (by simp) (by simp)
  have hst : stOk (gen, text, gs, next) = true := by simpa using hyes
  obtain ⟨ho1, ho2, ho3, ho4, ho5⟩ := stOk_of hst
  simp only at ho1 ho2 ho3 ho4 ho5
  have hvb := hv.mono kb.le fun _ _ h => h
  rw [pLenS_s, pBin_gt, pIf_d]
  refine ⟨fun hbig => ?_, fun hbig => ?_⟩
  · have e : appR (gen, text, gs, next) g = ([], (gen, text, gs, next), 6) := by simp [appR, hst, show 600 < g.size by omega]
    rw [e] at hR
    refine spec_l22Copy hvb (by omega) fun v' F s k o f => ?_
    exact out_copy hR h1 h2 hx k o f
  have h10 := many63 (s := g) (by omega)
  have hbk := blk_600 (s := g) (by omega)
  have hbe : ((blkN g : Nat) : Int) = 1 + (manyN g 63 : Nat) := by unfold blkN; omega
  refine spec_l22Blocks (by omega) ?_
  rw [pBin_add (by omega), pBin_gt, pIf_d]
  refine ⟨fun hfull => ?_, fun hfull => ?_⟩
  · have e : appR (gen, text, gs, next) g = ([], (gen, text, gs, next), 4) := by simp [appR, hst, show ¬ 600 < g.size by omega, hfull]
    rw [e] at hR
    refine spec_l22Copy hvb (by omega) fun v' F s k o f => ?_
    exact out_copy hR h1 h2 hx k o f
  have e : appR (gen, text, gs, next) g = (apP next g (manyN g 63) ++ [(2 + next, gheadB gen gs.length g.size)], (gen, text, gs ++ [g], next + (blkN g : Nat)), 0) := by simp [appR, hst, show ¬ 600 < g.size by omega, hfull]
  rw [e] at hR
  intro c h3 h4
  have kc : Keeps σ ((σ.put b ⟨t_impl_Raw, [], 0, (0, 0)⟩).put c ⟨t_impl_Raw, [], 0, (0, 0)⟩) := kb.trans (Keeps.put h4)
  have new := OAcc.new (w0 := w0) (σ := σ.put b ⟨t_impl_Raw, [], 0, (0, 0)⟩) (ety := t_impl_Raw) (n := 2) (O := ORaw) h3
  refine loop_rule (m := manyN g 63) (fun m l s => ∃ (i : Nat) (v' : Value) (F : List Nat), m + i = manyN g 63 ∧ Keeps σ s ∧ (∀ j, j ∈ F → σ j = none) ∧ OAcc w0 t_impl_Raw 2 ORaw s F v' (apP next g i) ∧ l = [.string g, v', .int .i64 (i : Nat), .int .i64 gen, .string text, v, .int .i64 next, .int .i64 0, .string ⟨#[]⟩, .slice none 0 0, .int .i64 0]) ?_
    ⟨0, _, [c], by omega, kc, (fun j hj => by rw [List.mem_singleton.1 hj]; exact none_atI kb h4), by simpa [apP] using new, rfl⟩
  rintro m l s L ⟨i, v', F, hm, ks, hF, ho, rfl⟩ hL
  simp only [vget, List.getD_cons_zero, List.getD_cons_succ]
  refine spec_l22Blocks (by omega) ?_
  rw [pBin_sub (by omega), pBin_lt, pIf_d]
  refine ⟨fun hi => ?_, fun hi => ?_⟩
  · rw [pBin_add (by omega), pBin_add (by omega), pBin_add (by omega)]
    refine spec_l22Piece (size := 63) (by omega) (by omega) ((lt_many (by omega)).1 (by omega)) ?_
    have hps := piece_size g i 63
    rw [pBin_cat (by show 1 + _ ≤ _; omega)]
    refine raw_app ho (by unfold rng'; omega) (by rw [ByteArray.size_append]; show 1 + _ ≤ _; omega) (by rw [apP_len]; omega) fun v2 F2 s2 k2 o2 f2 => ?_
    rw [pBin_add (by omega)]
    rw [← apP_succ] at o2
    exact hL _ _ (m - 1) (by omega) ⟨i + 1, v2, F2, by omega, k2.old ks hF, fresh_in ks hF f2, o2, by simp⟩
  · have e : i = manyN g 63 := by omega
    subst e
    show pBin Tryz.prog 3 .add (.int .i64 2) (.int .i64 next) _
    rw [pBin_add (by omega), hv.len, pLenS_s]
    refine spec_ghead (by omega) (by omega) (by omega) fun s1 k1 => ?_
    have ho1' := ho.frame (ok_raw w0) (k1.but_at fun b hb => (ho.dom (ok_raw w0) b hb).2)
    have hgs := ghead_size (gen := gen) (k := gs.length) (n := g.size) (by omega) (by omega) (by omega)
    refine raw_app ho1' (by unfold rng'; omega) (by omega) (by rw [apP_len]; omega) fun v2 F2 s2 k2 o2 f2 => ?_
    have ks1 := ks.trans k1
    have ks2 := k2.old ks1 hF
    have hF2 := fresh_in ks1 hF f2
    refine spec_l22Copy (hv.mono ks2.le fun _ _ h => h) (by omega) fun v3 F3 s3 k3 o3 f3 => ?_
    rw [pVal_4 rfl rfl (OSl.one' o3.osl) rfl]
    simp only [cellOf_agg, List.getD_cons_zero, List.getD_cons_succ]
    refine str_app o3 (by omega) (by omega) fun v4 F4 s4 k4 o4 f4 => ?_
    rw [pVal1 (OSl.one' o4.osl)]
    refine spec_l22Blocks (by omega) ?_
    rw [pBin_add (by omega), pVal1 rfl, pVal_4 rfl rfl (OSl.one' o4.osl) rfl]
    have ks3 := ks2.trans k3
    have hF3 : ∀ i, i ∈ F3 → σ i = none := fun i hi => none_atI ks2 (f3 i hi)
    have p3 := o2.frame (ok_raw w0) (k3.but_at fun b hb => (o2.dom (ok_raw w0) b hb).2)
    have p4 := p3.frame (ok_raw w0) (k4.at (fun b hb => (p3.dom (ok_raw w0) b hb).2) fun b hb hb' => (o2.dom (ok_raw w0) b hb).2 (f3 b hb'))
    refine hR v2 _ F2 F4 s4 (k4.old ks3 hF3) p4.osl ⟨v4, rfl, o4.osl, hx.1, hx.2.1, ?_⟩ hF2 (fresh_in ks3 hF3 f4) fun i hi hi' => ?_
    · show rng' (next + (blkN g : Nat)); unfold rng'; omega
    · rcases f4 i hi' with h | h
      · exact (o2.dom (ok_raw w0) i hi).2 (f3 i h)
      · exact (p3.dom (ok_raw w0) i hi).2 h

theorem spec_StoreSave {es : List Value} {x : Sto} {t : ByteArray} (h : RSto (Av.get w0 σ) es x) (hl : x.2.2.1.length ≤ 1000000000) (hs : t.size ≤ 1000000000) {R : Value → Vw → Prop} (hR : Out w0 σ (saveR x t) R) : AC Tryz.prog w0 n_spec_StoreSave [.agg ⟨es⟩, .string t] σ R := by
  have h0 := h
  obtain ⟨gen, text, gs, next⟩ := x
  obtain ⟨v, rfl, hv, hx⟩ := h
  simp only at hv hx hl
  refine ac_spec_StoreSave ?_
  unfold vc_spec_StoreSave
  rw [pVal_4 rfl rfl hv.one rfl]
  simp only [cellOf_agg, List.getD_cons_zero, List.getD_cons_succ]
  intro b h1 h2
  have kb : Keeps σ (σ.put b ⟨t_impl_Raw, [], 0, (0, 0)⟩) := Keeps.put h2
  have hb0 : ∀ i, i ∈ [b] → σ i = none := fun i hi => by rw [List.mem_singleton.1 hi]; exact h2
  refine spec_l22Ok (mono_sto kb.le h0) hl ?_
  rw [pUn_not, pIf_b]
  refine ⟨fun hno => ?_, fun hyes => ?_⟩
  · have e : saveR (gen, text, gs, next) t = ([], (0, ⟨#[]⟩, [], 0), 1) := by simp at hno; simp [saveR, hno]
    rw [e] at hR
    rw [pVal_4 rfl rfl rfl rfl]
    exact hR _ _ [b] [] _ kb (raw_new h1) nil_sto hb0 (by simp) (by simp)
  have hst : stOk (gen, text, gs, next) = true := by simpa using hyes
  obtain ⟨ho1, ho2, ho3, ho4, ho5⟩ := stOk_of hst
  simp only at ho1 ho2 ho3 ho4 ho5
  have hvb := hv.mono kb.le fun _ _ h => h
  refine spec_l22TextOk ?_
  rw [pUn_not, pIf_b]
  refine ⟨fun hbig => ?_, fun hbig => ?_⟩
  · have e : saveR (gen, text, gs, next) t = ([], (gen, text, gs, next), 4) := by simp at hbig; simp [saveR, hst, hbig]
    rw [e] at hR
    refine spec_l22Copy hvb (by omega) fun v' F s k o f => ?_
    exact out_copy hR h1 h2 hx k o f
  have hsm : ¬ 5760 < t.size := by simp at hbig; omega
  rw [pBin_ge, pIf_d]
  refine ⟨fun hfull => ?_, fun hfull => ?_⟩
  · have e : saveR (gen, text, gs, next) t = ([], (gen, text, gs, next), 5) := by simp [saveR, hst, hsm, hfull]
    rw [e] at hR
    refine spec_l22Copy hvb (by omega) fun v' F s k o f => ?_
    exact out_copy hR h1 h2 hx k o f
  have e : saveR (gen, text, gs, next) t = (savedR (gen + 1) t, (gen + 1, t, [], 0), 0) := by simp only [saveR, hst]; rw [if_neg (by simp), if_neg hsm, if_neg hfull]
  rw [e] at hR
  rw [pBin_add (by omega), pBin_add (by omega), pVal1 rfl, pVal1 rfl]
  refine spec_l22Saved (by omega) (by omega) fun v2 F2 s2 k2 o2 f2 => ?_
  rw [pVal_4 rfl rfl rfl rfl]
  exact hR v2 _ F2 [] s2 (kb.trans k2) o2.osl ⟨_, rfl, ⟨by simp, by simp, .inl ⟨rfl, rfl, rfl⟩⟩, by show rng' (gen + 1); unfold rng'; omega, by show t.size ≤ _; omega, by show rng' 0; unfold rng'; simp⟩ (fun i hi => none_atI kb (f2 i hi)) (by simp) (by simp)

end

end Go.Proofs.YtlfnfpdipghdiaaGreatDoor

/- A disk on which a store is: how it is opened; that what is written and played on opens again: pure. -/
set_option linter.unusedVariables false
set_option linter.unusedSimpArgs false
set_option maxRecDepth 20000
namespace Go.Proofs.YtlfnfpdipghdiaaGreatDoor
open Go Go.Av

/-! ### Numbers of at most five figures -/
noncomputable def num5 (s : ByteArray) : Int :=
  open Classical in if ((1 ≤ s.size ∧ s.size ≤ 5) ∧ ¬ (1 < s.size ∧ (bl s).head? = some 48)) ∧ ∀ b, b ∈ bl s → 48 ≤ b.toNat ∧ b.toNat ≤ 57 then (valL (bl s) 0 : Nat) else -1
theorem num5_yes {s : ByteArray} (h : ((1 ≤ s.size ∧ s.size ≤ 5) ∧ ¬ (1 < s.size ∧ (bl s).head? = some 48)) ∧ ∀ b, b ∈ bl s → 48 ≤ b.toNat ∧ b.toNat ≤ 57) : num5 s = (valL (bl s) 0 : Nat) := by unfold num5; rw [if_pos h]
theorem num5_no {s : ByteArray} (h : ¬ (((1 ≤ s.size ∧ s.size ≤ 5) ∧ ¬ (1 < s.size ∧ (bl s).head? = some 48)) ∧ ∀ b, b ∈ bl s → 48 ≤ b.toNat ∧ b.toNat ≤ 57)) : num5 s = -1 := by unfold num5; rw [if_neg h]
theorem num5_of {s : ByteArray} {k : Int} (h : num5 s = k) (hk : 0 ≤ k) : s = decN k.toNat ∧ s.size ≤ 5 ∧ k ≤ 99999 := by
  by_cases hc : ((1 ≤ s.size ∧ s.size ≤ 5) ∧ ¬ (1 < s.size ∧ (bl s).head? = some 48)) ∧ ∀ b, b ∈ bl s → 48 ≤ b.toNat ∧ b.toNat ≤ 57
  · rw [num5_yes hc] at h
    subst h
    obtain ⟨⟨h1, h2⟩, h3⟩ := hc
    have hl := size_bl s
    have h4 := decL_of (bl s) (fun e => by rw [e] at hl; simp at hl; omega) h3 (fun hlt e => h2 ⟨by omega, e⟩)
    have h5 := valL_lt (bl s) 0 h3
    have h6 : 10 ^ (bl s).length ≤ 10 ^ 5 := Nat.pow_le_pow_right (by omega) (by omega)
    refine ⟨?_, h1.2, by omega⟩
    rw [Int.toNat_natCast]
    unfold decN
    rw [h4, ofL_bl]
  · rw [num5_no hc] at h; omega
theorem dec_len5 : ∀ (k : Nat), k ≤ 99999 → (decL k).length ≤ 5 := by
  have h0 : ∀ k, k ≤ 9 → (decL k).length ≤ 1 := fun k hk => by rw [decL_small (by omega)]; simp
  have step : ∀ (a b : Nat), (∀ k, k ≤ a → (decL k).length ≤ b) → ∀ k, k ≤ 10 * a + 9 → (decL k).length ≤ b + 1 := fun a b h k hk => by
    by_cases hs : k < 10
    · rw [decL_small hs]; simp
    · rw [decL_big hs, List.length_append]
      have := h (k / 10) (by omega)
      simp only [List.length_singleton]; omega
  exact step 9999 4 (step 999 3 (step 99 2 (step 9 1 h0)))
theorem num5_dec {k : Nat} (h : k ≤ 99999) : num5 (decN k) = k := by
  have h1 := dec_len5 k h
  have h2 := decL_len k
  have e : bl (decN k) = decL k := bl_ofL _
  have hsz : (decN k).size = (decL k).length := size_ofL _
  rw [num5_yes, e, valL_dec]
  refine ⟨⟨by omega, fun ⟨h3, h4⟩ => ?_⟩, fun b hb => decL_digits k b (by rw [← e]; exact hb)⟩
  rw [e] at h4
  rcases Nat.eq_zero_or_pos k with h0 | h0
  · subst h0; rw [decL_small (by omega)] at hsz; simp at hsz; omega
  · obtain ⟨b, r, h5, h6⟩ := decL_head k h0
    rw [h5] at h4
    simp at h4; exact h6 h4
theorem dec_no32 (k : Nat) : (32 : UInt8) ∉ decL k := fun h => by
  have := decL_digits k 32 h
  have e : (32 : UInt8).toNat = 32 := rfl
  omega

/-! ### Words -/
def cTx : ByteArray := ⟨#[67]⟩
def hT : ByteArray := ⟨#[72]⟩
theorem decZ_of {g : Int} (h : 0 ≤ g) : decZ g = decN g.toNat := by
  obtain ⟨k, rfl⟩ : ∃ k : Nat, g = k := ⟨g.toNat, by omega⟩
  rw [decZ_nat, Int.toNat_natCast]
theorem cut_head {gen : Int} {n : Nat} (hg : 0 ≤ gen) : cutS 32 (headB gen n) = [cTx, decN gen.toNat, decN n] := by
  have e : bl (headB gen n) = 67 :: 32 :: (decL gen.toNat ++ 32 :: decL n) := by
    unfold headB
    rw [decZ_of hg]
    simp only [bl_append, decN, bl_ofL]
    have e1 : bl (⟨#[67, 32]⟩ : ByteArray) = [67, 32] := rfl
    have e2 : bl (⟨#[32]⟩ : ByteArray) = [32] := rfl
    rw [e1, e2]; simp
  unfold cutS
  rw [e, show (67 : UInt8) :: 32 :: (decL gen.toNat ++ 32 :: decL n) = [67] ++ 32 :: (decL gen.toNat ++ 32 :: decL n) from rfl, cutL_at (by decide), cutL_at (dec_no32 _), cutL_none (dec_no32 _)]
  rfl
theorem cut_ghead {gen : Int} {k n : Nat} (hg : 0 ≤ gen) : cutS 32 (gheadB gen k n) = [hT, decN gen.toNat, decN k, decN n] := by
  have e : bl (gheadB gen k n) = 72 :: 32 :: (decL gen.toNat ++ 32 :: (decL k ++ 32 :: decL n)) := by
    unfold gheadB
    rw [decZ_of hg]
    simp only [bl_append, decN, bl_ofL]
    simp only [List.append_assoc]
    rfl
  unfold cutS
  rw [e, show (72 : UInt8) :: 32 :: (decL gen.toNat ++ 32 :: (decL k ++ 32 :: decL n)) = [72] ++ 32 :: (decL gen.toNat ++ 32 :: (decL k ++ 32 :: decL n)) from rfl, cutL_at (by decide), cutL_at (dec_no32 _), cutL_at (dec_no32 _), cutL_none (dec_no32 _)]
  rfl
theorem data_ne (r : List UInt8) : ofL (68 :: r) ≠ hT ∧ ofL (68 :: r) ≠ cTx := by
  refine ⟨fun h => ?_, fun h => ?_⟩
  · have := congrArg bl h; rw [bl_ofL] at this; cases this
  · have := congrArg bl h; rw [bl_ofL] at this; cases this

/-! ### How a disk is opened -/
noncomputable def foundP (b : ByteArray) (slot : Int) : Int × Int :=
  match cutS 32 b with
  | [w, g, n] => if w = cTx ∧ ((1 ≤ num5 g ∧ num5 g ≤ 99999) ∧ num5 g % 2 = slot) ∧ (0 ≤ num5 n ∧ num5 n ≤ 5760) then (num5 g, num5 n) else (0, 0)
  | _ => (0, 0)
def at0 (B : List ByteArray) (i : Nat) : ByteArray := (B[i]?).getD ⟨#[]⟩
/-- A text of pieces: of so many blocks at most, from one on. -/
noncomputable def textP (B : List ByteArray) (skip n : Nat) : Nat → Nat → ByteArray → Option ByteArray
  | 0, _, out => if out.size = n then some out else none
  | m + 1, a, out => if out.size < n then if (at0 B a).size ≤ skip ∨ (skip = 1 ∧ (bl (at0 B a)).head? ≠ some 68) then none else textP B skip n m (a + 1) (out ++ (at0 B a).extract skip (at0 B a).size) else if out.size = n then some out else none
def lenB (n : Int) : Nat := (n.toNat + 62) / 63
noncomputable def groupP (B : List ByteArray) (gen : Int) (k at' : Nat) : Option (ByteArray × Nat) :=
  if 12 ≤ at' then none else
  match cutS 32 (at0 B (2 + at')) with
  | [w, g, m, n] => if ((w = hT ∧ num5 g = gen) ∧ num5 m = k) ∧ (0 ≤ num5 n ∧ num5 n ≤ 600) ∧ at' + (1 + lenB (num5 n)) ≤ 12 then
      (textP B 1 (num5 n).toNat (lenB (num5 n)) (3 + at') ⟨#[]⟩).map fun s => (s, 1 + lenB (num5 n)) else none
  | _ => none
noncomputable def groupsP (B : List ByteArray) (gen : Int) : Nat → List ByteArray → Nat → List ByteArray × Nat
  | 0, gs, nx => (gs, nx)
  | f + 1, gs, nx => match groupP B gen gs.length nx with
    | some (g, k) => groupsP B gen f (gs ++ [g]) (nx + k)
    | none => (gs, nx)
/-- A head of a group, of a checkpoint or a later one. -/
noncomputable def likeP (b : ByteArray) (gen : Int) : Bool :=
  match cutS 32 b with
  | [w, g, _, _] => decide (w = hT ∧ gen ≤ num5 g)
  | _ => false
def CleanP (B : List ByteArray) (gen : Int) (nx : Nat) : Prop := ∀ i, nx ≤ i → i < 12 → likeP (at0 B (2 + i)) gen = false
noncomputable def genP (B : List ByteArray) : Int × Int := if (foundP (at0 B 0) 0).1 < (foundP (at0 B 1) 1).1 then foundP (at0 B 1) 1 else foundP (at0 B 0) 0
noncomputable def openP (B : List ByteArray) : Option Sto :=
  open Classical in
  if diskOk B = true ∧ (genP B).1 ≠ 0 then
    match textP B 0 (genP B).2.toNat 90 (areaI (genP B).1).toNat ⟨#[]⟩ with
    | none => none
    | some text =>
      if CleanP B (genP B).1 (groupsP B (genP B).1 13 [] 0).2 then some ((genP B).1, text, (groupsP B (genP B).1 13 [] 0).1, (((groupsP B (genP B).1 13 [] 0).2 : Nat) : Int)) else none
  else none
end Go.Proofs.YtlfnfpdipghdiaaGreatDoor

/- What is written on a disk of a store, cut or not: what it opens with: pure. -/
set_option linter.unusedVariables false
set_option linter.unusedSimpArgs false
set_option maxRecDepth 20000
namespace Go.Proofs.YtlfnfpdipghdiaaGreatDoor
open Go Go.Av

theorem bl_head_app {a b : ByteArray} {c : UInt8} (h : (bl a).head? = some c) : (bl (a ++ b)).head? = some c := by
  rw [bl_append]
  cases e : bl a with
  | nil => rw [e] at h; cases h
  | cons x r => rw [e] at h; exact h
theorem nil_size : (⟨#[]⟩ : ByteArray).size = 0 := rfl

/-! ### Texts of pieces -/
theorem textP_size {B : List ByteArray} {skip n : Nat} {t : ByteArray} : ∀ (m a : Nat) (out : ByteArray), textP B skip n m a out = some t → t.size = n
  | 0, a, out, h => by
    unfold textP at h
    split at h
    · rename_i e; cases h; exact e
    · cases h
  | m + 1, a, out, h => by
    unfold textP at h
    split at h
    · split at h
      · cases h
      · exact textP_size m _ _ h
    · split at h
      · rename_i e; cases h; exact e
      · cases h
theorem textP_congr {B B' : List ByteArray} {skip n : Nat} : ∀ (m a : Nat) (out : ByteArray), (∀ i, a ≤ i → i < a + m → at0 B i = at0 B' i) → textP B skip n m a out = textP B' skip n m a out
  | 0, a, out, h => rfl
  | m + 1, a, out, h => by
    have e := h a (by omega) (by omega)
    have ih := fun o => textP_congr (skip := skip) (n := n) m (a + 1) o fun i h1 h2 => h i (by omega) (by omega)
    unfold textP
    rw [e, ih]
theorem textP_laid {B : List ByteArray} {t : ByteArray} {size skip : Nat} {pre : ByteArray} (hp : pre.size = skip) (hd : skip = 1 → (bl pre).head? = some 68) (hs : 0 < size) :
    ∀ (m a j : Nat), manyN t size ≤ j + m → j ≤ manyN t size → (∀ i, i < manyN t size - j → at0 B (a + i) = pre ++ pieceB t (j + i) size) → textP B skip t.size m a (t.extract 0 (min (j * size) t.size)) = some t := by
  have hout : ∀ j, (t.extract 0 (min (j * size) t.size)).size = min (j * size) t.size := fun j => by rw [ByteArray.size_extract]; omega
  have full : ∀ j, ¬ j < manyN t size → t.extract 0 (min (j * size) t.size) = t := fun j hj => by
    have : ¬ j * size < t.size := fun h => hj ((lt_many hs).2 h)
    rw [Nat.min_eq_right (by omega)]
    apply bl_inj
    rw [bl_extract, List.drop_zero, Nat.sub_zero, List.take_of_length_le (by rw [size_bl]; omega)]
  intro m
  induction m with
  | zero =>
    intro a j h1 h2 _
    unfold textP
    rw [full j (by omega), if_pos rfl]
  | succ m ih =>
    intro a j h1 h2 hb
    unfold textP
    by_cases hj : j < manyN t size
    · have hlt := (lt_many hs).1 hj
      have e2 : (j + 1) * size = j * size + size := by rw [Nat.add_mul, Nat.one_mul]
      have hb0 := hb 0 (by omega)
      simp only [Nat.add_zero] at hb0
      have hps : (pieceB t j size).size = min ((j + 1) * size) t.size - j * size := by unfold pieceB; rw [ByteArray.size_extract]; omega
      rw [hout, if_pos (by omega), hb0]
      have hsz : (pre ++ pieceB t j size).size = skip + (pieceB t j size).size := by rw [ByteArray.size_append, hp]
      rw [if_neg (by
        rintro (h | ⟨h, h'⟩)
        · omega
        · exact h' (bl_head_app (hd h)))]
      have e3 : t.extract 0 (min (j * size) t.size) ++ (pre ++ pieceB t j size).extract skip (pre ++ pieceB t j size).size = t.extract 0 (min ((j + 1) * size) t.size) := by
        apply bl_inj
        have hpl : (bl pre).length = skip := by rw [size_bl, hp]
        rw [bl_append, bl_extract, bl_extract, bl_extract, bl_append, hsz, List.drop_append_of_le_length (by omega), List.drop_of_length_le (by omega : (bl pre).length ≤ skip), List.nil_append]
        simp only [List.drop_zero, Nat.sub_zero]
        rw [(List.take_of_length_le (by rw [size_bl]; omega) : (bl (pieceB t j size)).take (skip + (pieceB t j size).size - skip) = bl (pieceB t j size))]
        unfold pieceB
        rw [bl_extract, Nat.min_eq_left (show j * size ≤ t.size by omega), show min ((j + 1) * size) t.size = j * size + (min ((j + 1) * size) t.size - j * size) by omega, List.take_add]
        congr 2
        omega
      rw [e3]
      exact ih (a + 1) (j + 1) (by omega) (by omega) fun i hi => by
        have := hb (i + 1) (by omega)
        rw [show a + 1 + i = a + (i + 1) by omega, show j + 1 + i = j + (i + 1) by omega]; exact this
    · rw [full j hj, if_neg (by omega), if_pos rfl]
theorem textP_all {B : List ByteArray} {n : Nat} {t : ByteArray} : ∀ (m a : Nat) (out : ByteArray), (∀ i, (at0 B i).size ≤ 64) → out.size + 63 * m < n + 63 → textP B 1 n m a out = some t → ∀ i, i < m → (bl (at0 B (a + i))).head? = some 68
  | 0, _, _, _, _, _, i, hi => by omega
  | m + 1, a, out, hB, hn, h, i, hi => by
    unfold textP at h
    rw [if_pos (by omega)] at h
    split at h
    · cases h
    · rename_i hc
      have hc1 : ¬ (at0 B a).size ≤ 1 := fun h => hc (.inl h)
      have hc2 : (bl (at0 B a)).head? = some 68 := Decidable.not_not.1 fun h => hc (.inr ⟨rfl, h⟩)
      cases i with
      | zero => exact hc2
      | succ i =>
        have hsz := hB a
        have := textP_all m (a + 1) _ hB (by rw [ByteArray.size_append, ByteArray.size_extract]; omega) h i (by omega)
        rw [show a + (i + 1) = a + 1 + i by omega]; exact this

/-! ### What is written -/
theorem at0_setD {B : List ByteArray} {x : Rw} {i : Nat} (hB : B.length = 194) : at0 (setD B x) i = if (inB x.1 0 193 = true ∧ x.2.size ≤ 64) ∧ x.1 = (i : Int) then x.2 else at0 B i := by
  unfold setD
  split
  · rename_i h
    have h1 : 0 ≤ x.1 ∧ x.1 ≤ 193 := by simpa [inB] using h.1
    unfold at0
    by_cases e : x.1 = (i : Int)
    · rw [if_pos ⟨h, e⟩, List.getElem?_set, if_pos (by omega), if_pos (by omega)]; rfl
    · rw [if_neg (fun h => e h.2), List.getElem?_set, if_neg (by omega)]
  · rename_i h
    rw [if_neg fun h' => h h'.1]
theorem setD_len {B : List ByteArray} {x : Rw} : (setD B x).length = B.length := by unfold setD; split <;> simp
theorem runD_app {B : List ByteArray} {xs ys : List Rw} : runD B (xs ++ ys) = runD (runD B xs) ys := by simp [runD, List.foldl_append]
theorem run_other {i : Nat} : ∀ {xs : List Rw} {B : List ByteArray}, B.length = 194 → (∀ x, x ∈ xs → x.1 ≠ (i : Int)) → at0 (runD B xs) i = at0 B i
  | [], B, _, _ => rfl
  | x :: r, B, hB, h => by
    show at0 (runD (setD B x) r) i = _
    rw [run_other (by rw [setD_len]; exact hB) fun y hy => h y (List.mem_cons_of_mem _ hy), at0_setD hB, if_neg fun e => h x List.mem_cons_self e.2]
def seqW (base : Nat) (f : Nat → ByteArray) (n : Nat) : List Rw := (List.range n).map fun i => (((base + i : Nat) : Int), f i)
theorem seqW_mem {base n : Nat} {f : Nat → ByteArray} {x : Rw} (h : x ∈ seqW base f n) : (base : Int) ≤ x.1 ∧ x.1 < ((base + n : Nat) : Int) := by
  obtain ⟨i, hi, rfl⟩ := List.mem_map.1 h
  have := List.mem_range.1 hi
  exact ⟨by omega, by omega⟩
theorem seqW_take {base n c : Nat} {f : Nat → ByteArray} (h : c ≤ n) : (seqW base f n).take c = seqW base f c := by
  unfold seqW
  rw [← List.map_take, List.take_range, Nat.min_eq_left h]
theorem run_at {B : List ByteArray} {base : Nat} {f : Nat → ByteArray} (hB : B.length = 194) (hf : ∀ i, (f i).size ≤ 64) : ∀ (n i : Nat), base + n ≤ 194 → i < n → at0 (runD B (seqW base f n)) (base + i) = f i
  | 0, i, _, hi => by omega
  | n + 1, i, hb, hi => by
    have e : seqW base f (n + 1) = seqW base f n ++ [(((base + n : Nat) : Int), f n)] := by simp [seqW, List.range_succ]
    rw [e, runD_app]
    show at0 (setD (runD B (seqW base f n)) (((base + n : Nat) : Int), f n)) (base + i) = _
    rw [at0_setD (by rw [runD_len]; exact hB)]
    by_cases h : i = n
    · subst h
      rw [if_pos ⟨⟨by simp [inB]; omega, hf i⟩, rfl⟩]
    · rw [if_neg (by rintro ⟨_, h'⟩; omega)]
      exact run_at hB hf n i (by omega) (by omega)
theorem diskOk_iff {B : List ByteArray} : diskOk B = true ↔ (∀ i, (at0 B i).size ≤ 64) ∧ B.length = 194 := by
  unfold diskOk
  rw [Bool.and_eq_true, okD_iff, decide_eq_true_eq]
  refine ⟨fun h => ⟨fun i => ?_, h.2⟩, fun h => ⟨fun j x hj => ?_, h.2⟩⟩
  · unfold at0
    cases e : B[i]? with
    | none => show 0 ≤ _; omega
    | some x => exact h.1 i x e
  · have := h.1 j
    unfold at0 at this
    rw [hj] at this; exact this
theorem diskOk_set {B : List ByteArray} {x : Rw} (h : diskOk B = true) : diskOk (setD B x) = true := by
  have h' := diskOk_iff.1 h
  refine diskOk_iff.2 ⟨fun i => ?_, by rw [setD_len]; exact h'.2⟩
  rw [at0_setD h'.2]
  split
  · rename_i hc; exact hc.1.2
  · exact h'.1 i
theorem diskOk_run : ∀ {xs : List Rw} {B : List ByteArray}, diskOk B = true → diskOk (runD B xs) = true
  | [], _, h => h
  | x :: r, B, h => diskOk_run (xs := r) (diskOk_set (x := x) h)

/-! ### Heads -/
theorem found_head {gen slot : Int} {n : Nat} (hg : 1 ≤ gen ∧ gen ≤ 99999) (hs : gen % 2 = slot) (hn : n ≤ 5760) : foundP (headB gen n) slot = (gen, (n : Int)) := by
  unfold foundP
  rw [cut_head (by omega)]
  simp only
  rw [num5_dec (by omega), num5_dec (by omega), Int.toNat_of_nonneg (by omega), if_pos ⟨trivial, ⟨hg, hs⟩, by omega⟩]
theorem found_or (b : ByteArray) (slot : Int) : (foundP b slot).1 = 0 ∨ ((1 ≤ (foundP b slot).1 ∧ (foundP b slot).1 ≤ 99999) ∧ (foundP b slot).1 % 2 = slot) ∧ (0 ≤ (foundP b slot).2 ∧ (foundP b slot).2 ≤ 5760) := by
  unfold foundP
  split
  · split
    · rename_i h; exact .inr ⟨h.2.1, h.2.2⟩
    · exact .inl rfl
  · exact .inl rfl
theorem found_nil (slot : Int) : (foundP ⟨#[]⟩ slot).1 = 0 := rfl
theorem like_nil (g : Int) : likeP ⟨#[]⟩ g = false := rfl
theorem cut_first {b : ByteArray} (h : (bl b).head? = some 68) : ∃ r t, cutS 32 b = ofL (68 :: r) :: t := by
  cases e : bl b with
  | nil => rw [e] at h; cases h
  | cons x l =>
    rw [e] at h
    obtain rfl : x = 68 := by simpa using h
    unfold cutS
    rw [e]
    unfold cutL
    rw [if_neg (by decide)]
    split
    · exact ⟨_, _, rfl⟩
    · exact ⟨[], [], rfl⟩
theorem like_data {b : ByteArray} (h : (bl b).head? = some 68) (g : Int) : likeP b g = false := by
  obtain ⟨r, t, e⟩ := cut_first h
  unfold likeP
  rw [e]
  split
  · rename_i w g' x y e'
    have : w = ofL (68 :: r) := by simpa using (congrArg List.head? e').symm
    rw [this]
    exact decide_eq_false fun h => (data_ne r).1 h.1
  · rfl
theorem like_more {b : ByteArray} {g g' : Int} (h : likeP b g = false) (hg : g ≤ g') : likeP b g' = false := by
  unfold likeP at h ⊢
  split
  · rename_i w x y z e
    rw [e] at h
    simp only [decide_eq_false_iff_not] at h ⊢
    exact fun h' => h ⟨h'.1, by omega⟩
  · rfl

/-! ### Groups -/
theorem group_none {B : List ByteArray} {gen : Int} {k a : Nat} (h : a < 12 → likeP (at0 B (2 + a)) gen = false) : groupP B gen k a = none := by
  unfold groupP
  split
  · rfl
  · rename_i ha
    have h := h (by omega)
    unfold likeP at h
    split
    · rename_i w g m n e
      rw [e] at h
      simp only [decide_eq_false_iff_not] at h
      rw [if_neg]
      rintro ⟨⟨⟨h1, h2⟩, _⟩, _⟩
      exact h ⟨h1, by omega⟩
    · rfl
theorem blk_lenB (g : ByteArray) : blkN g = 1 + lenB (g.size : Nat) := by unfold blkN manyN lenB; rw [Int.toNat_natCast, show g.size + 63 - 1 = g.size + 62 by omega]
theorem group_laid {B : List ByteArray} {gen : Int} {k a : Nat} {g : ByteArray} (hg : 1 ≤ gen ∧ gen ≤ 99999) (hk : k ≤ 99999) (hs : g.size ≤ 600) (hfit : a + blkN g ≤ 12) (h0 : at0 B (2 + a) = gheadB gen k g.size)
    (hd : ∀ i, i < manyN g 63 → at0 B (3 + a + i) = ⟨#[68]⟩ ++ pieceB g i 63) : groupP B gen k a = some (g, blkN g) := by
  have hb := blk_lenB g
  have h1 := (blk_600 hs).1
  unfold groupP
  rw [if_neg (by omega), h0, cut_ghead (by omega)]
  simp only
  rw [num5_dec (by omega), num5_dec hk, num5_dec (by omega), Int.toNat_of_nonneg (by omega), if_pos ⟨⟨⟨trivial, rfl⟩, rfl⟩, by omega, by omega⟩]
  have hl : lenB ((g.size : Nat) : Int) = manyN g 63 := by unfold lenB manyN; rw [Int.toNat_natCast, show g.size + 63 - 1 = g.size + 62 by omega]
  have := textP_laid (B := B) (t := g) (size := 63) (skip := 1) (pre := ⟨#[68]⟩) rfl (fun _ => rfl) (by omega) (manyN g 63) (3 + a) 0 (by omega) (by omega) fun i hi => by rw [Nat.zero_add]; exact hd i (by omega)
  rw [Nat.zero_mul, Nat.zero_min] at this
  have e0 : g.extract 0 0 = ⟨#[]⟩ := bl_inj (by rw [bl_extract]; simp)
  rw [e0] at this
  rw [Int.toNat_natCast, hl, this, hb, hl]; rfl
theorem group_facts {B : List ByteArray} {gen : Int} {k a m : Nat} {g : ByteArray} (hB : ∀ i, (at0 B i).size ≤ 64) (h : groupP B gen k a = some (g, m)) :
    g.size ≤ 600 ∧ m = blkN g ∧ a + m ≤ 12 ∧ a < 12 ∧ (∀ i, a ≤ i → i < a + m → likeP (at0 B (2 + i)) (gen + 1) = false) := by
  unfold groupP at h
  split at h
  · cases h
  rename_i ha
  split at h
  · rename_i w g' x n e
    split at h
    · rename_i hc
      obtain ⟨⟨⟨c1, c2⟩, c3⟩, c4, c5⟩ := hc
      cases ht : textP B 1 (num5 n).toNat (lenB (num5 n)) (3 + a) ⟨#[]⟩ with
      | none => rw [ht] at h; cases h
      | some t =>
        rw [ht] at h
        simp only [Option.map_some, Option.some.injEq, Prod.mk.injEq] at h
        obtain ⟨rfl, rfl⟩ := h
        have hsz := textP_size _ _ _ ht
        refine ⟨by omega, ?_, c5, by omega, fun i h1 h2 => ?_⟩
        · rw [blk_lenB, hsz, Int.toNat_of_nonneg (by omega)]
        · by_cases hi : i = a
          · subst hi
            unfold likeP
            rw [e]
            simp only [decide_eq_false_iff_not]
            rintro ⟨_, h'⟩; omega
          · have := textP_all _ _ _ hB (by rw [nil_size]; unfold lenB; omega) ht (i - a - 1) (by omega)
            rw [show 3 + a + (i - a - 1) = 2 + i by omega] at this
            exact like_data this _
    · cases h
  · cases h
theorem group_congr {B B' : List ByteArray} {gen : Int} {k a m : Nat} {g : ByteArray} (h : groupP B gen k a = some (g, m)) (hc : ∀ i, a ≤ i → i < a + m → at0 B (2 + i) = at0 B' (2 + i)) : groupP B' gen k a = some (g, m) := by
  have h0 := h
  unfold groupP at h ⊢
  split at h
  · cases h
  rename_i ha
  rw [if_neg ha]
  split at h
  · rename_i w g' x n e
    split at h
    · rename_i hcond
      cases ht : textP B 1 (num5 n).toNat (lenB (num5 n)) (3 + a) ⟨#[]⟩ with
      | none => rw [ht] at h; cases h
      | some t =>
        rw [ht] at h
        simp only [Option.map_some, Option.some.injEq, Prod.mk.injEq] at h
        obtain ⟨rfl, rfl⟩ := h
        rw [← hc a (by omega) (by omega), e]
        simp only
        have e2 := textP_congr (B := B) (B' := B') (skip := 1) (n := (num5 n).toNat) (lenB (num5 n)) (3 + a) ⟨#[]⟩ fun i h1 h2 => by
          have := hc (i - 2) (by omega) (by omega)
          rw [show 2 + (i - 2) = i by omega] at this; exact this
        rw [if_pos hcond, ← e2, ht]
        rfl
    · cases h
  · cases h

def Laid (B : List ByteArray) (gen : Int) : Nat → Nat → List ByteArray → Prop
  | _, _, [] => True
  | k, a, g :: r => groupP B gen k a = some (g, blkN g) ∧ Laid B gen (k + 1) (a + blkN g) r
theorem Laid.snoc {B : List ByteArray} {gen : Int} {g : ByteArray} : ∀ {gs : List ByteArray} {k a : Nat}, Laid B gen k a gs → groupP B gen (k + gs.length) (a + sumBy blkN gs) = some (g, blkN g) → Laid B gen k a (gs ++ [g])
  | [], k, a, _, h => ⟨h, trivial⟩
  | x :: r, k, a, h, hg => ⟨h.1, h.2.snoc (by
      rw [show k + 1 + r.length = k + (x :: r).length by simp; omega, show a + blkN x + sumBy blkN r = a + sumBy blkN (x :: r) by simp [sumBy]; omega]; exact hg)⟩
theorem Laid.congr {B B' : List ByteArray} {gen : Int} : ∀ {gs : List ByteArray} {k a : Nat}, Laid B gen k a gs → (∀ i, a ≤ i → i < a + sumBy blkN gs → at0 B (2 + i) = at0 B' (2 + i)) → Laid B' gen k a gs
  | [], _, _, _, _ => trivial
  | x :: r, k, a, h, hc => by
    have e : sumBy blkN (x :: r) = blkN x + sumBy blkN r := rfl
    exact ⟨group_congr h.1 fun i h1 h2 => hc i h1 (by omega), h.2.congr fun i h1 h2 => hc i (by omega) (by omega)⟩
theorem Laid.unlike {B : List ByteArray} {gen : Int} (hB : ∀ i, (at0 B i).size ≤ 64) : ∀ {gs : List ByteArray} {k a : Nat}, Laid B gen k a gs → ∀ i, a ≤ i → i < a + sumBy blkN gs → likeP (at0 B (2 + i)) (gen + 1) = false
  | [], _, _, _, i, h1, h2 => by simp [sumBy] at h2; omega
  | x :: r, k, a, h, i, h1, h2 => by
    have e : sumBy blkN (x :: r) = blkN x + sumBy blkN r := rfl
    by_cases hi : i < a + blkN x
    · exact (group_facts hB h.1).2.2.2.2 i h1 hi
    · exact h.2.unlike hB i (by omega) (by omega)
theorem groups_laid {B : List ByteArray} {gen : Int} : ∀ (f : Nat) {gs gs0 : List ByteArray} {a : Nat}, Laid B gen gs0.length a gs → groupP B gen (gs0.length + gs.length) (a + sumBy blkN gs) = none → gs.length < f → groupsP B gen f gs0 a = (gs0 ++ gs, a + sumBy blkN gs)
  | 0, gs, gs0, a, _, _, hf => by omega
  | f + 1, [], gs0, a, _, hn, _ => by
    unfold groupsP
    simp only [List.length_nil, Nat.add_zero, sumBy] at hn
    rw [hn]; simp [sumBy]
  | f + 1, x :: r, gs0, a, h, hn, hf => by
    unfold groupsP
    rw [h.1]
    simp only
    have hl : (gs0 ++ [x]).length = gs0.length + 1 := by simp
    have e1 : gs0.length + (x :: r).length = gs0.length + 1 + r.length := by simp; omega
    have e2 : a + sumBy blkN (x :: r) = a + blkN x + sumBy blkN r := by simp [sumBy]; omega
    rw [e1, e2] at hn
    rw [groups_laid f (gs := r) (by rw [hl]; exact h.2) (by rw [hl]; exact hn) (by simp at hf; omega), e2]
    simp
theorem groups_of {B : List ByteArray} {gen : Int} (hB : ∀ i, (at0 B i).size ≤ 64) : ∀ (f : Nat) {gs0 : List ByteArray} {a : Nat}, a ≤ 12 → 12 < a + f → ∃ gs, groupsP B gen f gs0 a = (gs0 ++ gs, a + sumBy blkN gs) ∧ Laid B gen gs0.length a gs ∧ a + sumBy blkN gs ≤ 12 ∧ ∀ g, g ∈ gs → g.size ≤ 600
  | 0, gs0, a, h1, h2 => by omega
  | f + 1, gs0, a, h1, h2 => by
    unfold groupsP
    cases h : groupP B gen gs0.length a with
    | none => exact ⟨[], by simp [sumBy], trivial, by simp [sumBy]; exact h1, fun g hg => by cases hg⟩
    | some y =>
      obtain ⟨g, m⟩ := y
      obtain ⟨q1, rfl, q3, q4, _⟩ := group_facts hB h
      have hb := (blk_600 q1).1
      obtain ⟨gs, e1, e2, e3, e4⟩ := groups_of hB f (gs0 := gs0 ++ [g]) (a := a + blkN g) q3 (by omega)
      have hs : a + sumBy blkN (g :: gs) = a + blkN g + sumBy blkN gs := by simp [sumBy]; omega
      refine ⟨g :: gs, ?_, ⟨h, ?_⟩, by omega, fun z hz => ?_⟩
      · simp only
        rw [e1, hs]; simp
      · have hl : (gs0 ++ [g]).length = gs0.length + 1 := by simp
        rw [hl] at e2; exact e2
      · rcases List.mem_cons.1 hz with e | hz
        · rw [e]; exact q1
        · exact e4 z hz
end Go.Proofs.YtlfnfpdipghdiaaGreatDoor

/- A disk of a store: steps on it, cut or not: pure. -/
set_option linter.unusedVariables false
set_option linter.unusedSimpArgs false
set_option maxRecDepth 20000
namespace Go.Proofs.YtlfnfpdipghdiaaGreatDoor
open Go Go.Av

/-- A disk that opens with a store. -/
structure InvP (B : List ByteArray) (gen : Int) (text : ByteArray) (gs : List ByteArray) : Prop where
  disk : diskOk B = true
  ok : stOk (gen, text, gs, ((sumBy blkN gs : Nat) : Int)) = true
  head : (gen % 2 = 0 ∧ foundP (at0 B 0) 0 = (gen, (text.size : Int)) ∧ (foundP (at0 B 1) 1).1 < gen) ∨ (gen % 2 = 1 ∧ foundP (at0 B 1) 1 = (gen, (text.size : Int)) ∧ (foundP (at0 B 0) 0).1 < gen)
  txt : textP B 0 text.size 90 (areaI gen).toNat ⟨#[]⟩ = some text
  laid : Laid B gen 0 0 gs
  clean : CleanP B gen (sumBy blkN gs)

variable {B : List ByteArray} {gen : Int} {text : ByteArray} {gs : List ByteArray}

theorem InvP.szs (h : InvP B gen text gs) : ∀ i, (at0 B i).size ≤ 64 := (diskOk_iff.1 h.disk).1
theorem InvP.len (h : InvP B gen text gs) : B.length = 194 := (diskOk_iff.1 h.disk).2
theorem stOk_mk {gen : Int} {text : ByteArray} {gs : List ByteArray} (h1 : ∀ g, g ∈ gs → g.size ≤ 600) (h2 : 1 ≤ gen ∧ gen ≤ 99999) (h3 : text.size ≤ 5760) (h4 : sumBy blkN gs ≤ 12) : stOk (gen, text, gs, ((sumBy blkN gs : Nat) : Int)) = true := by
  rw [stOk_all h1]
  simp only [inB, Bool.and_eq_true, decide_eq_true_eq]
  exact ⟨by omega, by omega, trivial, by omega⟩
theorem InvP.nums (h : InvP B gen text gs) : (∀ g, g ∈ gs → g.size ≤ 600) ∧ (1 ≤ gen ∧ gen ≤ 99999) ∧ text.size ≤ 5760 ∧ sumBy blkN gs ≤ 12 ∧ gs.length ≤ 12 := by
  obtain ⟨h1, h2, h3, h4, h5⟩ := stOk_of h.ok
  exact ⟨h1, h2, h3, by simp only at h4; omega, h5⟩
/-- No head of a later checkpoint is in the log. -/
theorem InvP.later (h : InvP B gen text gs) : CleanP B (gen + 1) 0 := fun i h1 h2 => by
  by_cases hi : i < sumBy blkN gs
  · exact h.laid.unlike h.szs i (by omega) (by omega)
  · exact like_more (h.clean i (by omega) h2) (by omega)
theorem InvP.gen_eq (h : InvP B gen text gs) : genP B = (gen, (text.size : Int)) := by
  have hg := h.nums.2.1
  unfold genP
  rcases h.head with ⟨_, h1, h2⟩ | ⟨_, h1, h2⟩
  · rw [h1, if_neg (by simp only; omega)]
  · rw [h1, if_pos (by simp only; omega)]
theorem InvP.open (h : InvP B gen text gs) : openP B = some (gen, text, gs, ((sumBy blkN gs : Nat) : Int)) := by
  have hg := h.nums
  have hgr : groupsP B gen 13 [] 0 = (gs, sumBy blkN gs) := by
    have := groups_laid (B := B) (gen := gen) 13 (gs := gs) (gs0 := []) (a := 0) h.laid (group_none fun ha => h.clean _ (by omega) (by omega)) (by omega)
    simpa using this
  unfold openP
  rw [h.gen_eq]
  simp only
  rw [if_pos ⟨h.disk, by omega⟩, Int.toNat_natCast, h.txt, hgr]
  simp only
  rw [if_pos h.clean]
theorem inv_of {x : Sto} (h : openP B = some x) : ∃ gen text gs, x = (gen, text, gs, ((sumBy blkN gs : Nat) : Int)) ∧ InvP B gen text gs := by
  unfold openP at h
  split at h
  · rename_i hc
    obtain ⟨hd, hne⟩ := hc
    have hd' := diskOk_iff.1 hd
    cases ht : textP B 0 (genP B).2.toNat 90 (areaI (genP B).1).toNat ⟨#[]⟩ with
    | none => rw [ht] at h; cases h
    | some t =>
      rw [ht] at h
      simp only at h
      split at h
      · rename_i hcl
        have hts := textP_size _ _ _ ht
        obtain ⟨gs, e1, e2, e3, e4⟩ := groups_of (gen := (genP B).1) hd'.1 13 (gs0 := []) (a := 0) (by omega) (by omega)
        simp only [List.nil_append, Nat.zero_add] at e1 e3
        rw [e1] at h hcl
        simp only [Option.some.injEq] at h
        have f0 := found_or (at0 B 0) 0
        have f1 := found_or (at0 B 1) 1
        -- the head that was found
        have hh : ((1 ≤ (genP B).1 ∧ (genP B).1 ≤ 99999) ∧ (0 ≤ (genP B).2 ∧ (genP B).2 ≤ 5760)) ∧ (((genP B).1 % 2 = 0 ∧ foundP (at0 B 0) 0 = genP B ∧ (foundP (at0 B 1) 1).1 < (genP B).1) ∨ ((genP B).1 % 2 = 1 ∧ foundP (at0 B 1) 1 = genP B ∧ (foundP (at0 B 0) 0).1 < (genP B).1)) := by
          unfold genP at hne ⊢
          split at hne
          · rename_i hlt
            rw [if_pos hlt]
            rcases f1 with f1 | f1
            · exact absurd f1 hne
            · exact ⟨⟨f1.1.1, f1.2⟩, .inr ⟨f1.1.2, rfl, hlt⟩⟩
          · rename_i hlt
            rw [if_neg hlt]
            rcases f0 with f0 | f0
            · exact absurd f0 hne
            · refine ⟨⟨f0.1.1, f0.2⟩, .inl ⟨f0.1.2, rfl, ?_⟩⟩
              rcases f1 with f1 | f1
              · omega
              · have : (foundP (at0 B 1) 1).1 ≠ (foundP (at0 B 0) 0).1 := fun e => by
                  have a1 := f0.1.2
                  have a2 := f1.1.2
                  rw [e] at a2; omega
                omega
        obtain ⟨⟨hg, hn⟩, hhd⟩ := hh
        have hsz : (t.size : Int) = (genP B).2 := by omega
        have epair : genP B = ((genP B).1, (t.size : Int)) := by rw [hsz]
        refine ⟨(genP B).1, t, gs, h.symm, hd, stOk_mk e4 hg (by omega) e3, ?_, ?_, e2, hcl⟩
        · rw [← epair]; exact hhd
        · rw [hts]; exact ht
      · cases h
  · cases h

/-! ### A group is appended -/
theorem apP_seq {nx : Nat} {g : ByteArray} {n : Nat} : apP ((nx : Nat) : Int) g n = seqW (3 + nx) (fun i => ⟨#[68]⟩ ++ pieceB g i 63) n := by
  unfold apP seqW
  refine List.map_congr_left fun i _ => ?_
  congr 1; omega
theorem dpiece_size (g : ByteArray) (i : Nat) : ((⟨#[68]⟩ : ByteArray) ++ pieceB g i 63).size ≤ 64 := by
  have := piece_size g i 63
  rw [ByteArray.size_append]
  show 1 + _ ≤ 64; omega
theorem dpiece_head (g : ByteArray) (i : Nat) : (bl ((⟨#[68]⟩ : ByteArray) ++ pieceB g i 63)).head? = some 68 := bl_head_app rfl
/-- The blocks of a group are written, ahead of its head. -/
theorem InvP.data (h : InvP B gen text gs) {g : ByteArray} {c : Nat} (hc : c ≤ manyN g 63) (hfit : sumBy blkN gs + blkN g ≤ 12) : InvP (runD B (apP ((sumBy blkN gs : Nat) : Int) g c)) gen text gs := by
  have hl := h.len
  have hbn : blkN g = 1 + manyN g 63 := rfl
  rw [apP_seq]
  generalize hnx : sumBy blkN gs = nx at hfit
  have other : ∀ i, i < 3 + nx ∨ 3 + nx + c ≤ i → at0 (runD B (seqW (3 + nx) (fun i => ⟨#[68]⟩ ++ pieceB g i 63) c)) i = at0 B i := fun i hi => run_other hl fun x hx => by
    have := seqW_mem hx; omega
  have here : ∀ i, i < c → at0 (runD B (seqW (3 + nx) (fun i => ⟨#[68]⟩ ++ pieceB g i 63) c)) (3 + nx + i) = ⟨#[68]⟩ ++ pieceB g i 63 := fun i hi => run_at hl (dpiece_size g) c i (by omega) hi
  refine ⟨diskOk_run h.disk, h.ok, ?_, ?_, ?_, ?_⟩
  · rw [other 0 (by omega), other 1 (by omega)]; exact h.head
  · have ha := area_le (gen := gen) (by have := h.nums.2.1; omega)
    rw [textP_congr _ _ _ fun i h1 h2 => other i (by omega)]; exact h.txt
  · exact h.laid.congr fun i h1 h2 => (other (2 + i) (by omega)).symm
  · intro i h1 h2
    rw [hnx] at h1
    by_cases hi : i < 1 + nx ∨ 1 + nx + c ≤ i
    · rw [other (2 + i) (by omega)]; exact h.clean i (by omega) h2
    · have := here (i - (1 + nx)) (by omega)
      rw [show 3 + nx + (i - (1 + nx)) = 2 + i by omega] at this
      rw [this]; exact like_data (dpiece_head g _) _
theorem dec5_size {k : Nat} (h : k ≤ 99999) : (decN k).size ≤ 5 := by rw [decN, size_ofL]; exact dec_len5 k h
theorem ghead_size5 {gen : Int} {k n : Nat} (hg : 0 ≤ gen ∧ gen ≤ 99999) (hk : k ≤ 99999) (hn : n ≤ 99999) : (gheadB gen k n).size ≤ 64 := by
  have h1 := dec5_size (k := gen.toNat) (by omega)
  have h2 := dec5_size hk
  have h3 := dec5_size hn
  unfold gheadB
  rw [decZ_of hg.1]
  simp only [ByteArray.size_append]
  have e1 : (⟨#[72, 32]⟩ : ByteArray).size = 2 := rfl
  have e2 : (⟨#[32]⟩ : ByteArray).size = 1 := rfl
  omega
theorem head_size5 {gen : Int} {n : Nat} (hg : 0 ≤ gen ∧ gen ≤ 99999) (hn : n ≤ 99999) : (headB gen n).size ≤ 64 := by
  have h1 := dec5_size (k := gen.toNat) (by omega)
  have h3 := dec5_size hn
  unfold headB
  rw [decZ_of hg.1]
  simp only [ByteArray.size_append]
  have e1 : (⟨#[67, 32]⟩ : ByteArray).size = 2 := rfl
  have e2 : (⟨#[32]⟩ : ByteArray).size = 1 := rfl
  omega
/-- .. and its head. -/
theorem InvP.group (h : InvP B gen text gs) {g : ByteArray} (hs : g.size ≤ 600) (hfit : sumBy blkN gs + blkN g ≤ 12) :
    InvP (runD B (apP ((sumBy blkN gs : Nat) : Int) g (manyN g 63) ++ [(2 + ((sumBy blkN gs : Nat) : Int), gheadB gen gs.length g.size)])) gen text (gs ++ [g]) := by
  have hl := h.len
  obtain ⟨n1, n2, n3, n4, n5⟩ := h.nums
  have hbn : blkN g = 1 + manyN g 63 := rfl
  have hgh := ghead_size5 (gen := gen) (k := gs.length) (n := g.size) (by omega) (by omega) (by omega)
  have hsum : sumBy blkN (gs ++ [g]) = sumBy blkN gs + blkN g := by
    have : ∀ l : List ByteArray, sumBy blkN (l ++ [g]) = sumBy blkN l + blkN g := fun l => by
      induction l with
      | nil => simp [sumBy]
      | cons a r ih => simp only [List.cons_append, sumBy, ih]; omega
    exact this gs
  rw [apP_seq, runD_app]
  generalize hnx : sumBy blkN gs = nx at *
  generalize hB1 : runD B (seqW (3 + nx) (fun i => ⟨#[68]⟩ ++ pieceB g i 63) (manyN g 63)) = B1
  have hl1 : B1.length = 194 := by rw [← hB1, runD_len]; exact hl
  have other : ∀ i, i ≠ 2 + nx → i < 3 + nx ∨ 3 + nx + manyN g 63 ≤ i → at0 (runD B1 [(2 + ((nx : Nat) : Int), gheadB gen gs.length g.size)]) i = at0 B i := fun i hne hi => by
    rw [run_other hl1 fun x hx => by rw [List.mem_singleton.1 hx]; simp only; omega, ← hB1]
    exact run_other hl fun x hx => by have := seqW_mem hx; omega
  have here : ∀ i, i < manyN g 63 → at0 (runD B1 [(2 + ((nx : Nat) : Int), gheadB gen gs.length g.size)]) (3 + nx + i) = ⟨#[68]⟩ ++ pieceB g i 63 := fun i hi => by
    rw [run_other hl1 fun x hx => by rw [List.mem_singleton.1 hx]; simp only; omega, ← hB1]
    exact run_at hl (dpiece_size g) _ i (by omega) hi
  have hd : at0 (runD B1 [(2 + ((nx : Nat) : Int), gheadB gen gs.length g.size)]) (2 + nx) = gheadB gen gs.length g.size := by
    show at0 (setD B1 _) _ = _
    rw [at0_setD hl1, if_pos ⟨⟨by simp [inB]; omega, hgh⟩, by simp⟩]
  generalize hB2 : runD B1 [(2 + ((nx : Nat) : Int), gheadB gen gs.length g.size)] = B2 at other here hd
  have hdk : diskOk B2 = true := by rw [← hB2, ← hB1]; exact diskOk_run (diskOk_run h.disk)
  refine ⟨hdk, stOk_mk (fun z hz => ?_) n2 n3 (by omega), ?_, ?_, ?_, ?_⟩
  · rcases List.mem_append.1 hz with hz | hz
    · exact n1 z hz
    · rw [List.mem_singleton.1 hz]; exact hs
  · rw [other 0 (by omega) (by omega), other 1 (by omega) (by omega)]; exact h.head
  · have ha := area_le (gen := gen) (by omega)
    rw [textP_congr _ _ _ fun i h1 h2 => other i (by omega) (by omega)]; exact h.txt
  · refine Laid.snoc (h.laid.congr fun i h1 h2 => (other (2 + i) (by omega) (by omega)).symm) ?_
    rw [Nat.zero_add, Nat.zero_add, hnx]
    exact group_laid n2 (by omega) hs hfit hd here
  · intro i h1 h2
    rw [hsum] at h1
    rw [other (2 + i) (by omega) (by omega)]; exact h.clean i (by omega) h2

/-! ### A checkpoint is saved -/
theorem savedP_seq {g : Int} {t : ByteArray} {n : Nat} (hg : 0 ≤ g) : savedP g t n = seqW (areaI g).toNat (fun i => pieceB t i 64) n := by
  have ha := area_le hg
  unfold savedP seqW
  refine List.map_congr_left fun i _ => ?_
  congr 1; omega
theorem InvP.part (h : InvP B gen text gs) {t : ByteArray} {c : Nat} (hs : t.size ≤ 5760) (hc : c ≤ manyN t 64) : InvP (runD B (savedP (gen + 1) t c)) gen text gs := by
  have hl := h.len
  obtain ⟨n1, n2, n3, n4, n5⟩ := h.nums
  have hm := many64 hs
  rw [savedP_seq (by omega)]
  have ha : (areaI (gen + 1)).toNat = 14 ∧ areaI gen = 104 ∨ (areaI (gen + 1)).toNat = 104 ∧ areaI gen = 14 := by unfold areaI; omega
  have other : ∀ i, i < (areaI (gen + 1)).toNat ∨ (areaI (gen + 1)).toNat + c ≤ i → at0 (runD B (seqW (areaI (gen + 1)).toNat (fun i => pieceB t i 64) c)) i = at0 B i := fun i hi => run_other hl fun x hx => by
    have := seqW_mem hx; omega
  refine ⟨diskOk_run h.disk, h.ok, ?_, ?_, ?_, ?_⟩
  · rw [other 0 (by omega), other 1 (by omega)]; exact h.head
  · rw [textP_congr _ _ _ fun i h1 h2 => other i (by omega)]; exact h.txt
  · exact h.laid.congr fun i h1 h2 => (other (2 + i) (by omega)).symm
  · intro i h1 h2
    rw [other (2 + i) (by omega)]; exact h.clean i (by omega) h2
theorem InvP.saved (h : InvP B gen text gs) {t : ByteArray} (hs : t.size ≤ 5760) (hg : gen < 99999) : InvP (runD B (savedR (gen + 1) t)) (gen + 1) t [] := by
  have hl := h.len
  obtain ⟨n1, n2, n3, n4, n5⟩ := h.nums
  have hm := many64 hs
  unfold savedR
  rw [savedP_seq (by omega), runD_app]
  have ha : (areaI (gen + 1)).toNat = 14 ∨ (areaI (gen + 1)).toNat = 104 := by unfold areaI; omega
  generalize harea : (areaI (gen + 1)).toNat = ar at ha
  generalize hB1 : runD B (seqW ar (fun i => pieceB t i 64) (manyN t 64)) = B1
  have hl1 : B1.length = 194 := by rw [← hB1, runD_len]; exact hl
  have hhs := head_size5 (gen := gen + 1) (n := t.size) (by omega) (by omega)
  have other : ∀ i : Nat, (i : Int) ≠ (gen + 1) % 2 → i < ar ∨ ar + manyN t 64 ≤ i → at0 (runD B1 [((gen + 1) % 2, headB (gen + 1) t.size)]) i = at0 B i := fun i hne hi => by
    rw [run_other hl1 fun x hx => by rw [List.mem_singleton.1 hx]; simp only; omega, ← hB1]
    exact run_other hl fun x hx => by have := seqW_mem hx; omega
  have here : ∀ i, i < manyN t 64 → at0 (runD B1 [((gen + 1) % 2, headB (gen + 1) t.size)]) (ar + i) = pieceB t i 64 := fun i hi => by
    rw [run_other hl1 fun x hx => by rw [List.mem_singleton.1 hx]; simp only; omega, ← hB1]
    exact run_at hl (fun i => piece_size t i 64) _ i (by omega) hi
  have hd : ∀ i : Nat, (i : Int) = (gen + 1) % 2 → at0 (runD B1 [((gen + 1) % 2, headB (gen + 1) t.size)]) i = headB (gen + 1) t.size := fun i hi => by
    show at0 (setD B1 _) _ = _
    rw [at0_setD hl1, if_pos ⟨⟨by simp [inB]; omega, hhs⟩, hi.symm⟩]
  generalize hB2 : runD B1 [((gen + 1) % 2, headB (gen + 1) t.size)] = B2 at other here hd
  have hdk : diskOk B2 = true := by rw [← hB2, ← hB1]; exact diskOk_run (diskOk_run h.disk)
  refine ⟨hdk, stOk_mk (fun z hz => by cases hz) (by omega) hs (by simp [sumBy]), ?_, ?_, trivial, ?_⟩
  · rcases h.head with ⟨h0, h1, h2⟩ | ⟨h0, h1, h2⟩
    · refine .inr ⟨by omega, ?_, ?_⟩
      · rw [hd 1 (by omega)]; exact found_head (by omega) (by omega) hs
      · rw [other 0 (by omega) (by omega), h1]; simp only; omega
    · refine .inl ⟨by omega, ?_, ?_⟩
      · rw [hd 0 (by omega)]; exact found_head (by omega) (by omega) hs
      · rw [other 1 (by omega) (by omega), h1]; simp only; omega
  · have := textP_laid (B := B2) (t := t) (size := 64) (skip := 0) (pre := ⟨#[]⟩) rfl (fun h => by cases h) (by omega) 90 ar 0 (by omega) (by omega) fun i hi => by
      rw [Nat.zero_add, here i (by omega)]
      exact bl_inj (by rw [bl_append]; rfl)
    rw [Nat.zero_mul, Nat.zero_min] at this
    have e0 : t.extract 0 0 = ⟨#[]⟩ := bl_inj (by rw [bl_extract]; simp)
    rw [e0] at this
    rw [harea]; exact this
  · intro i h1 h2
    rw [other (2 + i) (by omega) (by omega)]
    exact h.later i (by omega) h2

/-! ### Steps -/
def stR (save : Bool) (x : Sto) (t : ByteArray) : List Rw × Sto × Int := if save = true then saveR x t else appR x t
/-- A step, cut or not. -/
theorem step_open {x : Sto} {save : Bool} {t : ByteArray} (h : openP B = some x) (hc : (stR save x t).2.2 = 0) (c : Nat) :
    openP (runD B ((stR save x t).1.take c)) = some (if c < (stR save x t).1.length then x else (stR save x t).2.1) := by
  obtain ⟨gen, text, gs, rfl, hi⟩ := inv_of h
  obtain ⟨n1, n2, n3, n4, n5⟩ := hi.nums
  cases save
  · -- a group
    have e : stR false (gen, text, gs, ((sumBy blkN gs : Nat) : Int)) t = appR (gen, text, gs, ((sumBy blkN gs : Nat) : Int)) t := rfl
    rw [e] at hc ⊢
    unfold appR at hc ⊢
    rw [if_neg (by rw [hi.ok]; simp)] at hc ⊢
    split at hc
    · cases hc
    rename_i hs
    rw [if_neg hs]
    split at hc
    · cases hc
    rename_i hf
    rw [if_neg hf]
    simp only at hf ⊢
    have hfit : sumBy blkN gs + blkN t ≤ 12 := by omega
    rw [List.length_append, apP_len]
    by_cases hcl : c ≤ manyN t 63
    · rw [List.take_append_of_le_length (by rw [apP_len]; exact hcl), if_pos (by simp; omega)]
      have : (apP ((sumBy blkN gs : Nat) : Int) t (manyN t 63)).take c = apP ((sumBy blkN gs : Nat) : Int) t c := by rw [apP_seq, apP_seq, seqW_take hcl]
      rw [this]
      exact (hi.data hcl hfit).open
    · rw [List.take_of_length_le (by rw [List.length_append, apP_len]; simp; omega), if_neg (by simp; omega)]
      have := (hi.group (g := t) (by omega) hfit).open
      rw [this]
      have hsum : ∀ l : List ByteArray, sumBy blkN (l ++ [t]) = sumBy blkN l + blkN t := fun l => by
        induction l with
        | nil => simp [sumBy]
        | cons a r ih => simp only [List.cons_append, sumBy, ih]; omega
      rw [hsum, Int.natCast_add]
  · have e : stR true (gen, text, gs, ((sumBy blkN gs : Nat) : Int)) t = saveR (gen, text, gs, ((sumBy blkN gs : Nat) : Int)) t := rfl
    rw [e] at hc ⊢
    unfold saveR at hc ⊢
    rw [if_neg (by rw [hi.ok]; simp)] at hc ⊢
    split at hc
    · cases hc
    rename_i hs
    rw [if_neg hs]
    split at hc
    · cases hc
    rename_i hf
    rw [if_neg hf]
    simp only at hf ⊢
    rw [savedR_len]
    by_cases hcl : c ≤ manyN t 64
    · rw [if_pos (by omega)]
      have : (savedR (gen + 1) t).take c = savedP (gen + 1) t c := by
        unfold savedR
        rw [List.take_append_of_le_length (by rw [savedP_len]; exact hcl), savedP_seq (by omega), savedP_seq (by omega), seqW_take hcl]
      rw [this]
      exact (hi.part (by omega) hcl).open
    · rw [if_neg (by omega), List.take_of_length_le (by rw [savedR_len]; omega)]
      exact (hi.saved (by omega) (by omega)).open

/-! ### A new disk -/
def blankB : List ByteArray := List.replicate 194 ⟨#[]⟩
theorem at0_blank (i : Nat) : at0 blankB i = ⟨#[]⟩ := by
  unfold at0 blankB
  rw [List.getElem?_replicate]
  split <;> rfl
theorem blank_ok : diskOk blankB = true := diskOk_iff.2 ⟨fun i => by rw [at0_blank]; exact Nat.zero_le _, by simp [blankB]⟩
theorem new_part {t : ByteArray} {c : Nat} (hs : t.size ≤ 5760) (hc : c ≤ manyN t 64) : openP (runD blankB (savedP 1 t c)) = none := by
  have hm := many64 hs
  rw [savedP_seq (by omega)]
  have ha : (areaI 1).toNat = 104 := rfl
  have other : ∀ i, i < 104 → at0 (runD blankB (seqW (areaI 1).toNat (fun i => pieceB t i 64) c)) i = ⟨#[]⟩ := fun i hi => by
    rw [run_other (by simp [blankB]) fun x hx => by have := seqW_mem hx; omega, at0_blank]
  unfold openP
  rw [if_neg]
  rintro ⟨_, h⟩
  apply h
  unfold genP
  rw [other 0 (by omega), other 1 (by omega), if_neg (by rw [found_nil, found_nil]; omega)]
  exact found_nil _
theorem new_all {t : ByteArray} (hs : t.size ≤ 5760) : InvP (runD blankB (savedR 1 t)) 1 t [] := by
  have hl : blankB.length = 194 := by simp [blankB]
  have hm := many64 hs
  unfold savedR
  rw [savedP_seq (by omega), runD_app, show (areaI 1).toNat = 104 from rfl]
  generalize hB1 : runD blankB (seqW 104 (fun i => pieceB t i 64) (manyN t 64)) = B1
  have hl1 : B1.length = 194 := by rw [← hB1, runD_len]; exact hl
  have hhs := head_size5 (gen := 1) (n := t.size) (by omega) (by omega)
  have other : ∀ i, i ≠ 1 → i < 104 → at0 (runD B1 [(1 % 2, headB 1 t.size)]) i = ⟨#[]⟩ := fun i hne hi => by
    rw [run_other hl1 fun x hx => by rw [List.mem_singleton.1 hx]; simp only; omega, ← hB1, run_other hl fun x hx => by have := seqW_mem hx; omega, at0_blank]
  have here : ∀ i, i < manyN t 64 → at0 (runD B1 [(1 % 2, headB 1 t.size)]) (104 + i) = pieceB t i 64 := fun i hi => by
    rw [run_other hl1 fun x hx => by rw [List.mem_singleton.1 hx]; simp only; omega, ← hB1]
    exact run_at hl (fun i => piece_size t i 64) _ i (by omega) hi
  have hd : at0 (runD B1 [(1 % 2, headB 1 t.size)]) 1 = headB 1 t.size := by
    show at0 (setD B1 _) _ = _
    rw [at0_setD hl1, if_pos ⟨⟨by simp [inB], hhs⟩, by simp⟩]
  generalize hB2 : runD B1 [(1 % 2, headB 1 t.size)] = B2 at other here hd
  have hdk : diskOk B2 = true := by rw [← hB2, ← hB1]; exact diskOk_run (diskOk_run blank_ok)
  refine ⟨hdk, stOk_mk (fun z hz => by cases hz) (by omega) hs (by simp [sumBy]), .inr ⟨by omega, ?_, ?_⟩, ?_, trivial, ?_⟩
  · rw [hd]; exact found_head (by omega) (by omega) hs
  · rw [other 0 (by omega) (by omega), found_nil]; omega
  · have := textP_laid (B := B2) (t := t) (size := 64) (skip := 0) (pre := ⟨#[]⟩) rfl (fun h => by cases h) (by omega) 90 104 0 (by omega) (by omega) fun i hi => by
      rw [Nat.zero_add, here i (by omega)]
      exact bl_inj (by rw [bl_append]; rfl)
    rw [Nat.zero_mul, Nat.zero_min] at this
    have e0 : t.extract 0 0 = ⟨#[]⟩ := bl_inj (by rw [bl_extract]; simp)
    rw [e0] at this
    exact this
  · intro i h1 h2
    rw [other (2 + i) (by omega) (by omega)]
    exact like_nil _
end Go.Proofs.YtlfnfpdipghdiaaGreatDoor

/- Paths: their names, their order, what lies within what. -/
set_option linter.unusedVariables false
set_option linter.unusedSimpArgs false
namespace Go.Proofs.YtlfnfpdipghdiaaGreatDoor
open Go Go.Av

section
variable {w0 : World} {σ : Vw}

theorem RSl.at1 {v : Value} {xs : List ByteArray} (h : RSl 1 RS (Av.get w0 σ) v xs) {j : Nat} {x : ByteArray} (hj : xs[j]? = some x) {K : (Nat → Value) → Prop} (hK : ∀ g : Nat → Value, g 0 = .string x → x.size ≤ 9223372036854775807 → K g) :
    pIndexAddr 1 v (.int .i64 j) fun p => pLoad w0 1 p σ K := by
  refine h.at hj fun g hg => ?_
  obtain ⟨hg, hs⟩ := hg
  simp only [expl, List.cons.injEq, and_true] at hg
  exact hK g hg hs

end
end Go.Proofs.YtlfnfpdipghdiaaGreatDoor

/- How a disk is opened, by the reference's hand: its readers. -/
set_option linter.unusedVariables false
set_option linter.unusedSimpArgs false
set_option maxRecDepth 20000
namespace Go.Proofs.YtlfnfpdipghdiaaGreatDoor
open Go Go.Av Go.RowKit

theorem at0_some {B : List ByteArray} {i : Nat} (h : i < B.length) : B[i]? = some (at0 B i) := by
  unfold at0
  rw [List.getElem?_eq_getElem h]; rfl
theorem sub8 {P : Program} {T : Nat} {a b : Int} {K : Value → Prop} (h : 0 ≤ a - b ∧ a - b ≤ 255) : pBin P T .sub (.int .u8 a) (.int .u8 b) K ↔ K (.int .u8 (a - b)) :=
  pBin_i (by simp only [aint, IntWalk.u8_in _ h])

section
variable {w0 : World} {σ : Vw}

theorem spec_l22Cut {s : ByteArray} {c : UInt8} (hs : s.size ≤ 1000000000) {R : Value → Vw → Prop} (hR : ∀ v F σ', Keeps σ σ' → OStrs w0 σ' F v (cutS c s) → (∀ b, b ∈ F → σ b = none) → R v σ') : AC Tryz.prog w0 n_spec_l22Cut [.string s, .int .u8 (c.toNat : Int)] σ R := by
  refine ac_spec_l22Cut ?_
  unfold vc_spec_l22Cut
  intro b h1 h2
  have kb : Keeps σ (σ.put b ⟨t_string, [], 0, (0, 0)⟩) := Keeps.put h2
  have hb0 : ∀ i, i ∈ [b] → σ i = none := fun i hi => by rw [List.mem_singleton.1 hi]; exact h2
  refine loop_rule (m := s.size) (fun m l st => ∃ (i f : Nat) (v : Value) (F : List Nat) (out : List ByteArray), m + i = s.size ∧ f ≤ i ∧ Keeps σ st ∧ (∀ j, j ∈ F → σ j = none) ∧ OAcc w0 t_string 1 OStr st F v out ∧ out.length ≤ i ∧ c ∉ ((bl s).take i).drop f ∧ cutL c (bl s) = out.map bl ++ cutL c ((bl s).drop f) ∧ l = [.string s, .int .u8 (c.toNat : Int), v, .int .i64 (f : Nat), .int .i64 (i : Nat)]) ?_
    ⟨0, 0, _, [b], [], by omega, Nat.le_refl _, kb, hb0, OAcc.new h1, Nat.le_refl _, by simp, by simp, rfl⟩
  rintro m l st L ⟨i, f, v, F, out, hm, hfi, ks, hF, ho, hol, hnc, hcut, rfl⟩ hL
  simp only [vget, List.getD_cons_zero, List.getD_cons_succ]
  have hlen : (bl s).length = s.size := size_bl s
  rw [pLenS_s, pBin_lt, pIf_d]
  refine ⟨fun hi => ?_, fun hi => ?_⟩
  · have hi' : i < s.size := by omega
    have hget := bl_get s i hi'
    generalize hb : s[i]'hi' = x at hget
    refine pIndexStr_s hi' ?_
    rw [hb, pBin_eq, pIf_d]
    refine ⟨fun e => ?_, fun e => ?_⟩
    · have e : x = c := UInt8.toNat_inj.1 (by omega)
      subst e
      refine pSliceStr_s (l := (f : Nat)) (h := (i : Nat)) rfl rfl (by omega) ?_
      rw [Int.toNat_natCast, Int.toNat_natCast, pVal1 rfl]
      refine ho.one (ok_str w0) (f := []) (y := s.extract f i) ⟨rfl, rfl, by rw [ByteArray.size_extract]; omega⟩ (by simp) (by omega) (by omega) fun v2 F2 s2 k2 o2 f2 => ?_
      rw [pBin_add (by omega), pBin_add (by omega)]
      have hF2 : ∀ j, j ∈ F2 → σ j = none := fresh_in ks hF fun j hj => by
        rcases f2 j hj with h | h | h
        · exact .inl h
        · cases h
        · exact .inr h
      refine hL _ _ (m - 1) (by omega) ⟨i + 1, i + 1, v2, F2, out ++ [s.extract f i], by omega, Nat.le_refl _, k2.old ks hF, hF2, o2, by simp; omega, by simp, ?_, by simp⟩
      have hsplit : (bl s).drop f = ((bl s).take i).drop f ++ x :: (bl s).drop (i + 1) := by
        have h3 : bl s = (bl s).take i ++ x :: (bl s).drop (i + 1) := by
          have hl : i < (bl s).length := by omega
          have hx : (bl s)[i]'hl = x := (List.getElem?_eq_some_iff.1 hget).2
          rw [← hx, ← List.drop_eq_getElem_cons hl, List.take_append_drop]
        conv => lhs; rw [h3]
        rw [List.drop_append_of_le_length (by rw [List.length_take]; omega)]
      rw [hcut, hsplit, cutL_at hnc, List.map_append, List.append_assoc]
      congr 1
      simp only [List.map_cons, List.map_nil, List.singleton_append, List.cons.injEq, and_true]
      rw [bl_extract, List.drop_take]
    · rw [pBin_add (by omega)]
      refine hL _ _ (m - 1) (by omega) ⟨i + 1, f, v, F, out, by omega, by omega, ks, hF, ho, by omega, ?_, hcut, by simp⟩
      rw [List.take_add_one, hget, Option.toList_some, List.drop_append_of_le_length (by rw [List.length_take]; omega)]
      intro h
      rcases List.mem_append.1 h with h | h
      · exact hnc h
      · rw [List.mem_singleton] at h
        subst h; exact e rfl
  · have e : i = s.size := by omega
    subst e
    show pSliceStr (.string s) (some (.int .i64 (f : Nat))) none _
    refine pSliceStr_s (l := (f : Nat)) (h := s.size) rfl rfl (by omega) ?_
    rw [Int.toNat_natCast, Int.toNat_natCast, pVal1 rfl]
    refine ho.one (ok_str w0) (f := []) (y := s.extract f s.size) ⟨rfl, rfl, by rw [ByteArray.size_extract]; omega⟩ (by simp) (by omega) (by omega) fun v2 F2 s2 k2 o2 f2 => ?_
    have hF2 : ∀ j, j ∈ F2 → σ j = none := fresh_in ks hF fun j hj => by
      rcases f2 j hj with h | h | h
      · exact .inl h
      · cases h
      · exact .inr h
    have hfin : out ++ [s.extract f s.size] = cutS c s := by
      rw [List.take_of_length_le (by omega)] at hnc
      rw [cutL_none hnc] at hcut
      have e2 : bl (s.extract f s.size) = (bl s).drop f := by
        rw [bl_extract, List.take_of_length_le (by rw [List.length_drop]; omega)]
      rw [cutS, hcut, ← e2, List.map_append, List.map_map]
      have : (ofL ∘ bl) = id := by funext x; exact ofL_bl x
      rw [this, List.map_id, List.map_cons, List.map_nil, ofL_bl]
    rw [hfin] at o2
    exact hR v2 F2 s2 (k2.old ks hF) o2.osl hF2

theorem num_le (s : ByteArray) : -1 ≤ num5 s ∧ num5 s ≤ 99999 := by
  by_cases h : 0 ≤ num5 s
  · have := (num5_of (s := s) rfl h).2.2; omega
  · by_cases hc : ((1 ≤ s.size ∧ s.size ≤ 5) ∧ ¬ (1 < s.size ∧ (bl s).head? = some 48)) ∧ ∀ b, b ∈ bl s → 48 ≤ b.toNat ∧ b.toNat ≤ 57
    · rw [num5_yes hc] at h; omega
    · rw [num5_no hc]; omega

/-- The figures, one by one. -/
theorem num_loop {s : ByteArray} (hs : (1 ≤ s.size ∧ s.size ≤ 5) ∧ ¬ (1 < s.size ∧ (bl s).head? = some 48)) {R : Value → Vw → Prop} (hR : R (.int .i64 (num5 s)) σ) :
    pLoop (fun l8 K9 s10 => pLenS (vget l8 0) (fun v11 => pBin Tryz.prog 3 .lss (vget l8 3) v11 (fun v12 => pIf v12 (pIndexStr (vget l8 0) (vget l8 3) (fun v13 => pBin Tryz.prog 5 .lss v13 (.int .u8 48) (fun v14 => pIf v14 (K9 AX.ret [vget l8 0, .int .i64 (-1), vget l8 2, vget l8 3] s10) (pIndexStr (vget l8 0) (vget l8 3) (fun v15 => pBin Tryz.prog 5 .gtr v15 (.int .u8 57) (fun v16 => pIf v16 (K9 AX.ret [vget l8 0, .int .i64 (-1), vget l8 2, vget l8 3] s10) (pBin Tryz.prog 3 .mul (vget l8 2) (.int .i64 10) (fun v17 => pIndexStr (vget l8 0) (vget l8 3) (fun v18 => pBin Tryz.prog 5 .sub v18 (.int .u8 48) (fun v19 => pConvInt .i64 v19 (fun v20 => pBin Tryz.prog 3 .add v17 v20 (fun v21 => pBin Tryz.prog 3 .add (vget l8 3) (.int .i64 1) (fun v22 => K9 AX.normal [vget l8 0, vget l8 1, v21, v22] s10))))))))))))) (K9 (AX.exit 0) [vget l8 0, vget l8 1, vget l8 2, vget l8 3] s10)))) [.string s, .int .i64 0, .int .i64 0, .int .i64 0] σ (fun x23 l24 s25 => match x23 with | .normal => R (vget l24 2) s25 | .ret => R (vget l24 1) s25 | .exit i26 => (match Nat.beq i26 0 with | true => R (vget l24 2) s25 | false => False)) := by
  have hlen := size_bl s
  refine loop_rule (m := s.size) (fun m l st => ∃ j : Nat, m + j = s.size ∧ st = σ ∧ (∀ b, b ∈ (bl s).take j → 48 ≤ b.toNat ∧ b.toNat ≤ 57) ∧ l = [.string s, .int .i64 0, .int .i64 (valL ((bl s).take j) 0 : Nat), .int .i64 (j : Nat)]) ?_ ⟨0, by omega, rfl, by simp, rfl⟩
  rintro m l st L ⟨j, hm, rfl, hd, rfl⟩ hL
  simp only [vget, List.getD_cons_zero, List.getD_cons_succ]
  rw [pLenS_s, pBin_lt, pIf_d]
  refine ⟨fun hj => ?_, fun hj => ?_⟩
  · have hj' : j < s.size := by omega
    have hget := bl_get s j hj'
    generalize hb : s[j]'hj' = x at hget
    have bad : ¬ (48 ≤ x.toNat ∧ x.toNat ≤ 57) → R (.int .i64 (-1)) st := fun hx => by
      rw [num5_no fun h => hx (h.2 x (List.mem_of_getElem? hget))] at hR; exact hR
    refine pIndexStr_s hj' ?_
    rw [hb, pBin_lt, pIf_d]
    refine ⟨fun h => bad (by omega), fun h1 => ?_⟩
    refine pIndexStr_s hj' ?_
    rw [hb, pBin_gt, pIf_d]
    refine ⟨fun h => bad (by omega), fun h2 => ?_⟩
    have hv := valL_lt ((bl s).take j) 0 hd
    have hp : 10 ^ ((bl s).take j).length ≤ 10 ^ 5 := Nat.pow_le_pow_right (by omega) (by rw [List.length_take]; omega)
    rw [pBin_mul (by omega)]
    refine pIndexStr_s hj' ?_
    rw [hb, sub8 (by omega), pConv_i64 (by omega), pBin_add (by omega), pBin_add (by omega)]
    have ht : (bl s).take (j + 1) = (bl s).take j ++ [x] := by rw [List.take_add_one, hget, Option.toList_some]
    refine hL _ _ (m - 1) (by omega) ⟨j + 1, by omega, rfl, fun b hb' => ?_, ?_⟩
    · rw [ht] at hb'
      rcases List.mem_append.1 hb' with e | e
      · exact hd b e
      · rw [List.mem_singleton.1 e]; omega
    · rw [ht, valL_append]
      simp only [valL, List.cons.injEq, Value.int.injEq, true_and, and_true]
      omega
  · have e : j = s.size := by omega
    subst e
    rw [List.take_of_length_le (by omega)] at hd ⊢
    rw [num5_yes ⟨hs, hd⟩] at hR
    exact hR

theorem spec_l22Num {s : ByteArray} {R : Value → Vw → Prop} (hR : R (.int .i64 (num5 s)) σ) : AC Tryz.prog w0 n_spec_l22Num [.string s] σ R := by
  refine ac_spec_l22Num ?_
  unfold vc_spec_l22Num cs_spec_l22Num_1
  rw [pLenS_s]
  refine spec_l21In ?_
  rw [pUn_not, pIf_b]
  refine ⟨fun hno => ?_, fun hin => ?_⟩
  · have : ¬ (1 ≤ s.size ∧ s.size ≤ 5) := fun h => by
      have : inB (s.size : Nat) 1 5 = true := by simp only [inB, decide_eq_true_eq]; omega
      rw [this] at hno; cases hno
    rw [num5_no fun h => this h.1.1] at hR; exact hR
  have hin : 1 ≤ s.size ∧ s.size ≤ 5 := by
    simp only [inB, Bool.not_eq_false', decide_eq_true_eq] at hin; omega
  rw [pLenS_s, pBin_gt, pIf_d]
  refine ⟨fun hgt => ?_, fun hle => ?_⟩
  · have h0 : 0 < s.size := by omega
    have hget := bl_get s 0 h0
    have hh : (bl s).head? = some (s[0]'h0) := by rw [List.head?_eq_getElem?]; exact hget
    refine pIndexStr_s (j := 0) h0 ?_
    generalize hb : s[0]'h0 = x at hget hh
    rw [pBin_eq, pIf_d]
    refine ⟨fun he => ?_, fun hne => ?_⟩
    · have : x = 48 := UInt8.toNat_inj.1 (by show x.toNat = 48; omega)
      rw [num5_no fun h => h.1.2 ⟨by omega, by rw [hh, this]⟩] at hR; exact hR
    · refine num_loop ⟨hin, fun h => hne ?_⟩ hR
      have := h.2
      rw [hh] at this
      cases this; rfl
  · exact num_loop ⟨hin, fun h => by omega⟩ hR

/-- A word of a list of words. -/
theorem word_at {F : List Nat} {v : Value} {xs : List ByteArray} (h : OStrs w0 σ F v xs) {j : Nat} {x : ByteArray} (hj : xs[j]? = some x) {K : (Nat → Value) → Prop} (hK : ∀ g : Nat → Value, g 0 = .string x → K g) :
    pIndexAddr 1 v (.int .i64 (j : Nat)) fun p => pLoad w0 1 p σ K := RSl.at1 (h.rel (ok_str w0)) hj fun g hg _ => hK g hg

theorem list_three {α : Type} {l : List α} (h : l.length = 3) : ∃ a b c, l = [a, b, c] := by
  match l, h with
  | [a, b, c], _ => exact ⟨a, b, c, rfl⟩
theorem list_four {α : Type} {l : List α} (h : l.length = 4) : ∃ a b c d, l = [a, b, c, d] := by
  match l, h with
  | [a, b, c, d], _ => exact ⟨a, b, c, d, rfl⟩
theorem inB_yesV {n lo hi : Int} (h : inB n lo hi = true) : lo ≤ n ∧ n ≤ hi := by simpa [inB] using h
theorem inB_notV {n lo hi : Int} (h : (!inB n lo hi) = true) : ¬ (lo ≤ n ∧ n ≤ hi) := by
  simp [inB] at h
  omega

theorem spec_l22Found {v : Value} {B : List ByteArray} (h : RSl 1 RS (Av.get w0 σ) v B) (hB : diskOk B = true) {slot : Nat} (hs : slot < 2) {R : Value → Vw → Prop} (hR : ∀ σ', Keeps σ σ' → R (.tuple ⟨[.int .i64 (foundP (at0 B slot) (slot : Nat)).1, .int .i64 (foundP (at0 B slot) (slot : Nat)).2]⟩) σ') : AC Tryz.prog w0 n_spec_l22Found [.agg ⟨[v]⟩, .int .i64 (slot : Nat)] σ R := by
  refine ac_spec_l22Found ?_
  unfold vc_spec_l22Found
  obtain ⟨hsz, hlen⟩ := diskOk_iff.1 hB
  rw [pVal_1 h.one]
  simp only [cellOf_agg, List.getD_cons_zero]
  refine RSl.at1 h (at0_some (show slot < B.length by omega)) fun g hg _ => ?_
  rw [hg]
  have hts := hsz slot
  generalize at0 B slot = t at hR hts
  refine spec_l22Cut (c := 32) (by omega) fun w Fw s1 k1 ow fw => ?_
  have hR := hR s1 k1
  rw [(ow.rel (ok_str w0)).len, pBin_ne, pIf_d]
  refine ⟨fun h3 => ?_, fun h3 => ?_⟩
  · have e : foundP t (slot : Nat) = (0, 0) := by
      unfold foundP
      split
      · rename_i e; rw [e] at h3; exact absurd rfl h3
      · rfl
    rw [e] at hR; exact hR
  obtain ⟨a, x, n, hW⟩ := list_three (show (cutS 32 t).length = 3 by omega)
  rw [hW] at ow
  have hf : foundP t (slot : Nat) = if a = cTx ∧ ((1 ≤ num5 x ∧ num5 x ≤ 99999) ∧ num5 x % 2 = (slot : Nat)) ∧ (0 ≤ num5 n ∧ num5 n ≤ 5760) then (num5 x, num5 n) else (0, 0) := by
    unfold foundP; rw [hW]
  rw [hf] at hR
  have no : ¬ (a = cTx ∧ ((1 ≤ num5 x ∧ num5 x ≤ 99999) ∧ num5 x % 2 = (slot : Nat)) ∧ (0 ≤ num5 n ∧ num5 n ≤ 5760)) → R (.tuple ⟨[.int .i64 0, .int .i64 0]⟩) s1 := fun h => by rw [if_neg h] at hR; exact hR
  refine word_at ow (j := 0) rfl fun g hg => ?_
  rw [hg, pBin_sne, pIf_d]
  refine ⟨fun h => no fun h' => h h'.1, fun ha => ?_⟩
  have ha : a = cTx := by simpa [cTx] using ha
  refine word_at ow (j := 1) rfl fun g hg => ?_
  rw [hg]
  refine spec_l22Num ?_
  refine word_at ow (j := 2) rfl fun g hg => ?_
  rw [hg]
  refine spec_l22Num ?_
  refine spec_l21In ?_
  rw [pUn_not, pIf_b]
  refine ⟨fun h => no fun h' => inB_notV h h'.2.1.1, fun hx => ?_⟩
  have hx := inB_yesV (by simpa using hx)
  rw [pBin_rem (by omega), pBin_ne, pIf_d]
  refine ⟨fun h => no fun h' => h h'.2.1.2, fun h2 => ?_⟩
  have h2 : num5 x % 2 = (slot : Nat) := by omega
  refine spec_l21In ?_
  rw [pUn_not, pIf_b]
  refine ⟨fun h => no fun h' => inB_notV h h'.2.2, fun hn => ?_⟩
  have hn := inB_yesV (by simpa using hn)
  rw [if_pos ⟨ha, ⟨hx, h2⟩, hn⟩] at hR
  exact hR

theorem spec_l22Text {v : Value} {B : List ByteArray} (h : RSl 1 RS (Av.get w0 σ) v B) (hB : diskOk B = true) {a most n skip : Nat} (ha : a + most ≤ 194) (hn : n ≤ 1000000) (hk : skip ≤ 1) {R : Value → Vw → Prop}
    (hyes : ∀ t, textP B skip n most a ⟨#[]⟩ = some t → R (.tuple ⟨[.string t, .bool true]⟩) σ) (hno : ∀ t, textP B skip n most a ⟨#[]⟩ = none → R (.tuple ⟨[.string t, .bool false]⟩) σ) : AC Tryz.prog w0 n_spec_l22Text [.agg ⟨[v]⟩, .int .i64 (a : Nat), .int .i64 (most : Nat), .int .i64 (n : Nat), .int .i64 (skip : Nat)] σ R := by
  refine ac_spec_l22Text ?_
  unfold vc_spec_l22Text
  obtain ⟨hsz, hlen⟩ := diskOk_iff.1 hB
  rw [pVal_1 h.one]
  simp only [cellOf_agg, List.getD_cons_zero]
  generalize hT : textP B skip n most a ⟨#[]⟩ = T at hyes hno
  refine loop_rule (m := most) (fun m l s => ∃ (i : Nat) (out : ByteArray), s = σ ∧ m + i = most ∧ out.size ≤ 64 * i ∧ T = textP B skip n m (a + i) out ∧ l = [.int .i64 (a : Nat), .int .i64 (most : Nat), .int .i64 (n : Nat), .int .i64 (skip : Nat), .string ⟨#[]⟩, .bool false, .string out, .int .i64 (i : Nat), v]) ?_
    ⟨0, ⟨#[]⟩, rfl, by omega, Nat.zero_le _, hT.symm, rfl⟩
  rintro m l s L ⟨i, out, rfl, hm, ho, ht, rfl⟩ hL
  clear hT
  simp only [vget, List.getD_cons_zero, List.getD_cons_succ]
  rw [pLenS_s, pBin_lt, pIf_d]
  refine ⟨fun hlt => ?_, fun hge => ?_⟩
  · rw [pBin_ge, pIf_d]
    refine ⟨fun hi => ?_, fun hi => ?_⟩
    · have e : m = 0 := by omega
      subst e
      refine hno _ ?_
      rw [ht]
      unfold textP
      rw [if_neg (by omega)]
    · obtain ⟨m, rfl⟩ : ∃ k, m = k + 1 := ⟨m - 1, by omega⟩
      unfold textP at ht
      rw [if_pos (show out.size < n by omega)] at ht
      have hx := at0_some (B := B) (i := a + i) (by omega)
      have hxs := hsz (a + i)
      generalize at0 B (a + i) = b at ht hx hxs
      have e1 : ((a : Nat) : Int) + (i : Nat) = ((a + i : Nat) : Int) := by omega
      rw [pBin_add (by omega), e1]
      refine RSl.at1 h hx fun g hg _ => ?_
      rw [hg, pLenS_s, pBin_le, pIf_d]
      refine ⟨fun hs => ?_, fun hs => ?_⟩
      · refine hno _ ?_
        rw [ht, if_pos (.inl (by omega))]
      have go : ¬ (b.size ≤ skip ∨ (skip = 1 ∧ (bl b).head? ≠ some 68)) → pBin Tryz.prog 3 .add (.int .i64 (a : Nat)) (.int .i64 (i : Nat)) (fun v23 => pIndexAddr 1 v v23 (fun v24 => pLoad w0 1 v24 s (fun g25 => pSliceStr (g25 0) (some (.int .i64 (skip : Nat))) none (fun v26 => pBin Tryz.prog 9 .add (.string out) v26 (fun v27 => pBin Tryz.prog 3 .add (.int .i64 (i : Nat)) (.int .i64 1) (fun v28 => L [.int .i64 (a : Nat), .int .i64 (most : Nat), .int .i64 (n : Nat), .int .i64 (skip : Nat), .string ⟨#[]⟩, .bool false, v27, v28, v] s)))))) := by
        intro hc
        rw [if_neg hc] at ht
        rw [pBin_add (by omega), e1]
        refine RSl.at1 h hx fun g hg _ => ?_
        rw [hg]
        refine pSliceStr_s (l := (skip : Nat)) (h := (b.size : Nat)) rfl rfl (by omega) ?_
        rw [Int.toNat_natCast, Int.toNat_natCast, pBin_cat (by rw [ByteArray.size_extract]; omega), pBin_add (by omega)]
        refine hL _ _ m rfl ⟨i + 1, _, rfl, by omega, by rw [ByteArray.size_append, ByteArray.size_extract]; omega, ht, rfl⟩
      rw [pBin_eq, pIf_d]
      refine ⟨fun h1 => ?_, fun h1 => go fun h => by rcases h with h | h <;> omega⟩
      rw [pBin_add (by omega), e1]
      refine RSl.at1 h hx fun g hg _ => ?_
      rw [hg]
      have h0 : 0 < b.size := by omega
      have hget := bl_get b 0 h0
      have hh : (bl b).head? = some (b[0]'h0) := by rw [List.head?_eq_getElem?]; exact hget
      refine pIndexStr_s (j := 0) h0 ?_
      generalize hb : b[0]'h0 = x at hget hh
      rw [pBin_ne, pIf_d]
      refine ⟨fun hne => ?_, fun he => go fun h => ?_⟩
      · refine hno _ ?_
        have h68 : (bl b).head? ≠ some 68 := fun e => hne (by
          rw [hh] at e
          have e2 : x = 68 := Option.some.inj e
          rw [e2]; rfl)
        rw [ht, if_pos (.inr ⟨by omega, h68⟩)]
      · rcases h with h | h
        · omega
        · refine h.2 ?_
          rw [hh]
          congr 1
          exact UInt8.toNat_inj.1 (by show x.toNat = 68; omega)
  · show pLenS (.string out) (fun v35 => pBin Tryz.prog 3 .eql v35 (.int .i64 (n : Nat)) (fun v36 => R (.tuple (⟨[.string out, v36]⟩)) s))
    have e : textP B skip n m (a + i) out = if out.size = n then some out else none := by
      cases m with
      | zero => rfl
      | succ m => unfold textP; rw [if_neg (by omega)]
    rw [e] at ht
    rw [pLenS_s, pBin_eq]
    by_cases hs : out.size = n
    · rw [if_pos hs] at ht
      rw [decide_eq_true (by omega)]
      exact hyes _ ht
    · rw [if_neg hs] at ht
      rw [decide_eq_false (by omega)]
      exact hno _ ht

theorem spec_l22Group {v : Value} {B : List ByteArray} (h : RSl 1 RS (Av.get w0 σ) v B) (hB : diskOk B = true) {gen : Int} {k a : Nat} {R : Value → Vw → Prop}
    (hyes : ∀ g m σ', groupP B gen k a = some (g, m) → Keeps σ σ' → R (.tuple ⟨[.string g, .int .i64 (m : Nat)]⟩) σ') (hno : ∀ σ', groupP B gen k a = none → Keeps σ σ' → R (.tuple ⟨[.string ⟨#[]⟩, .int .i64 0]⟩) σ') : AC Tryz.prog w0 n_spec_l22Group [.agg ⟨[v]⟩, .int .i64 gen, .int .i64 (k : Nat), .int .i64 (a : Nat)] σ R := by
  refine ac_spec_l22Group ?_
  unfold vc_spec_l22Group
  obtain ⟨hsz, hlen⟩ := diskOk_iff.1 hB
  rw [pVal_1 h.one]
  simp only [cellOf_agg, List.getD_cons_zero]
  have hg : groupP B gen k a = if 12 ≤ a then none else match cutS 32 (at0 B (2 + a)) with
    | [w, g, m, n] => if ((w = hT ∧ num5 g = gen) ∧ num5 m = k) ∧ (0 ≤ num5 n ∧ num5 n ≤ 600) ∧ a + (1 + lenB (num5 n)) ≤ 12 then
      (textP B 1 (num5 n).toNat (lenB (num5 n)) (3 + a) ⟨#[]⟩).map fun s => (s, 1 + lenB (num5 n)) else none
    | _ => none := rfl
  rw [pBin_ge, pIf_d]
  refine ⟨fun h12 => ?_, fun h12 => ?_⟩
  · rw [if_pos (by omega)] at hg
    exact hno σ hg (Keeps.refl _)
  rw [if_neg (by omega)] at hg
  have e1 : (2 : Int) + ((a : Nat) : Int) = ((2 + a : Nat) : Int) := by omega
  rw [pBin_add (by omega), e1]
  refine RSl.at1 h (at0_some (show 2 + a < B.length by omega)) fun g hg' _ => ?_
  rw [hg']
  have hts := hsz (2 + a)
  generalize at0 B (2 + a) = t at hg hts
  refine spec_l22Cut (c := 32) (by omega) fun w Fw s1 k1 ow fw => ?_
  rw [(ow.rel (ok_str w0)).len, pBin_ne, pIf_d]
  refine ⟨fun h4 => hno s1 ?_ k1, fun h4 => ?_⟩
  · rw [hg]
    split
    · rename_i e; rw [e] at h4; exact absurd rfl h4
    · rfl
  obtain ⟨w0', x, y, n, hW⟩ := list_four (show (cutS 32 t).length = 4 by omega)
  rw [hW] at ow
  rw [hW] at hg
  simp only at hg
  have no : ¬ (((w0' = hT ∧ num5 x = gen) ∧ num5 y = k) ∧ (0 ≤ num5 n ∧ num5 n ≤ 600) ∧ a + (1 + lenB (num5 n)) ≤ 12) → R (.tuple ⟨[.string ⟨#[]⟩, .int .i64 0]⟩) s1 := fun h => hno s1 (by rw [hg, if_neg h]) k1
  refine word_at ow (j := 0) rfl fun g hg1 => ?_
  rw [hg1, pBin_sne, pIf_d]
  refine ⟨fun h => no fun h' => h h'.1.1.1, fun ha => ?_⟩
  have ha : w0' = hT := by simpa [hT] using ha
  refine word_at ow (j := 1) rfl fun g hg1 => ?_
  rw [hg1]
  refine spec_l22Num ?_
  rw [pBin_ne, pIf_d]
  refine ⟨fun h => no fun h' => h h'.1.1.2, fun hx => ?_⟩
  refine word_at ow (j := 2) rfl fun g hg1 => ?_
  rw [hg1]
  refine spec_l22Num ?_
  rw [pBin_ne, pIf_d]
  refine ⟨fun h => no fun h' => h h'.1.2, fun hy => ?_⟩
  refine word_at ow (j := 3) rfl fun g hg1 => ?_
  rw [hg1]
  refine spec_l22Num ?_
  have hnl := num_le n
  rw [pBin_add (by omega), pBin_sub (by omega), pBin_quo (by omega), pBin_add (by omega)]
  refine spec_l21In ?_
  rw [pUn_not, pIf_b]
  refine ⟨fun h => no fun h' => inB_notV h h'.2.1, fun hn => ?_⟩
  have hn := inB_yesV (by simpa using hn)
  have eb : (1 : Int) + (num5 n + 64 - 2) / 63 = ((1 + lenB (num5 n) : Nat) : Int) := by unfold lenB; omega
  rw [eb, pBin_add (by omega), pBin_gt, pIf_d]
  refine ⟨fun h => no fun h' => by omega, fun hfit => ?_⟩
  have hfit : a + (1 + lenB (num5 n)) ≤ 12 := by omega
  rw [if_pos ⟨⟨⟨ha, by omega⟩, by omega⟩, hn, hfit⟩] at hg
  have e2 : (2 : Int) + ((a : Nat) : Int) + 1 = ((3 + a : Nat) : Int) := by omega
  have e3 : (((1 + lenB (num5 n) : Nat)) : Int) - 1 = ((lenB (num5 n) : Nat) : Int) := by omega
  have e4 : num5 n = (((num5 n).toNat : Nat) : Int) := by omega
  rw [pBin_add (by omega), pBin_add (by omega), e2, pBin_sub (by omega), e3]
  have hv1 := h.mono k1.le fun _ _ h => h
  have call : ∀ (z : Int), z = (((num5 n).toNat : Nat) : Int) → AC Tryz.prog w0 n_spec_l22Text [.agg ⟨[v]⟩, .int .i64 ((3 + a : Nat) : Int), .int .i64 ((lenB (num5 n) : Nat) : Int), .int .i64 z, .int .i64 1] s1 (fun v37 s38 => pExtract v37 0 (fun v39 => pExtract v37 1 (fun v40 => pUn UnOp.not v40 (fun v41 => pIf v41 (R (.tuple (⟨[.string ⟨#[]⟩, .int .i64 0]⟩)) s38) (R (.tuple (⟨[v39, .int .i64 ((1 + lenB (num5 n) : Nat) : Int)]⟩)) s38))))) := by
    rintro z rfl
    refine spec_l22Text (skip := 1) hv1 hB (by omega) (by omega) (by omega) (fun t ht => ?_) (fun t ht => ?_)
    · rw [pExtract_s rfl, pExtract_s rfl, pUn_not, pIf_b]
      refine ⟨fun h => by simp at h, fun _ => ?_⟩
      rw [ht] at hg
      exact hyes t _ s1 hg k1
    · rw [pExtract_s rfl, pExtract_s rfl, pUn_not, pIf_b]
      refine ⟨fun _ => ?_, fun h => by simp at h⟩
      rw [ht] at hg
      exact hno s1 hg k1
  exact call _ e4
end
end Go.Proofs.YtlfnfpdipghdiaaGreatDoor

/- How a disk is opened, by the reference's hand: a whole store. -/
set_option linter.unusedVariables false
set_option linter.unusedSimpArgs false
set_option maxRecDepth 20000
namespace Go.Proofs.YtlfnfpdipghdiaaGreatDoor
open Go Go.Av Go.RowKit

/-- A store whose groups are a list of our own. -/
def ASto (w0 : World) (σ : Vw) (F : List Nat) (es : List Value) (x : Sto) : Prop := ∃ v, es = [.int .i64 x.1, .string x.2.1, v, .int .i64 x.2.2.2] ∧ OAcc w0 t_string 1 OStr σ F v x.2.2.1 ∧ rng' x.1 ∧ x.2.1.size ≤ 9223372036854775807 ∧ rng' x.2.2.2
def zeroSt : Sto := (0, ⟨#[]⟩, [], 0)
/-- What opening gives, with its answer. -/
noncomputable def openR (B : List ByteArray) : Sto × Bool := match openP B with | some x => (x, true) | none => (zeroSt, false)
theorem openR_some {B : List ByteArray} {x : Sto} (h : openP B = some x) : openR B = (x, true) := by unfold openR; rw [h]
theorem openR_none {B : List ByteArray} (h : openP B = none) : openR B = (zeroSt, false) := by unfold openR; rw [h]

theorem open_none0 {B : List ByteArray} (h : ¬ (diskOk B = true ∧ (genP B).1 ≠ 0)) : openP B = none := by
  unfold openP; rw [if_neg h]
theorem open_text {B : List ByteArray} (hB : diskOk B = true) (hg : (genP B).1 ≠ 0) (h : textP B 0 (genP B).2.toNat 90 (areaI (genP B).1).toNat ⟨#[]⟩ = none) : openP B = none := by
  unfold openP; rw [if_pos ⟨hB, hg⟩, h]
theorem open_dirty {B : List ByteArray} {t : ByteArray} (hB : diskOk B = true) (hg : (genP B).1 ≠ 0) (h : textP B 0 (genP B).2.toNat 90 (areaI (genP B).1).toNat ⟨#[]⟩ = some t) (hc : ¬ CleanP B (genP B).1 (groupsP B (genP B).1 13 [] 0).2) : openP B = none := by
  unfold openP; rw [if_pos ⟨hB, hg⟩, h]; simp only; rw [if_neg hc]
theorem open_clean {B : List ByteArray} {t : ByteArray} (hB : diskOk B = true) (hg : (genP B).1 ≠ 0) (h : textP B 0 (genP B).2.toNat 90 (areaI (genP B).1).toNat ⟨#[]⟩ = some t) (hc : CleanP B (genP B).1 (groupsP B (genP B).1 13 [] 0).2) :
    openP B = some ((genP B).1, t, (groupsP B (genP B).1 13 [] 0).1, (((groupsP B (genP B).1 13 [] 0).2 : Nat) : Int)) := by
  unfold openP; rw [if_pos ⟨hB, hg⟩, h]; simp only; rw [if_pos hc]
theorem gen_facts (B : List ByteArray) : (genP B).1 = 0 ∨ (1 ≤ (genP B).1 ∧ (genP B).1 ≤ 99999) ∧ (0 ≤ (genP B).2 ∧ (genP B).2 ≤ 5760) := by
  unfold genP
  split
  · rcases found_or (at0 B 1) 1 with h | h
    · exact .inl h
    · exact .inr ⟨h.1.1, h.2⟩
  · rcases found_or (at0 B 0) 0 with h | h
    · exact .inl h
    · exact .inr ⟨h.1.1, h.2⟩

section
variable {w0 : World} {σ : Vw}

theorem ASto.osto {F : List Nat} {es : List Value} {x : Sto} (h : ASto w0 σ F es x) : OSto w0 σ F es x := by
  obtain ⟨v, h1, h2, h3⟩ := h; exact ⟨v, h1, h2.osl, h3⟩
theorem ASto.rsto {F : List Nat} {es : List Value} {x : Sto} (h : ASto w0 σ F es x) : RSto (Av.get w0 σ) es x := (ok_sto w0).rel _ _ _ _ h.osto
theorem ASto.zero : ASto w0 σ [] [.int .i64 0, .string ⟨#[]⟩, .slice none 0 0, .int .i64 0] zeroSt := ⟨_, rfl, OAcc.nil, by unfold rng' zeroSt; simp only; omega, Nat.zero_le _, by unfold rng' zeroSt; simp only; omega⟩

theorem spec_l22Clean {v gv : Value} {B gs : List ByteArray} (h : RSl 1 RS (Av.get w0 σ) v B) (hB : diskOk B = true) (hg : RSl 1 RS (Av.get w0 σ) gv gs) {gen : Int} {text : ByteArray} {nx : Nat} {R : Value → Vw → Prop}
    (hyes : ∀ σ', CleanP B gen nx → Keeps σ σ' → R (.tuple ⟨[.agg ⟨[.int .i64 gen, .string text, gv, .int .i64 (nx : Nat)]⟩, .bool true]⟩) σ') (hno : ∀ σ', ¬ CleanP B gen nx → Keeps σ σ' → R (.tuple ⟨[.agg ⟨[.int .i64 0, .string ⟨#[]⟩, .slice none 0 0, .int .i64 0]⟩, .bool false]⟩) σ') :
    AC Tryz.prog w0 n_spec_l22Clean [.agg ⟨[v]⟩, .agg ⟨[.int .i64 gen, .string text, gv, .int .i64 (nx : Nat)]⟩] σ R := by
  refine ac_spec_l22Clean ?_
  unfold vc_spec_l22Clean
  obtain ⟨hsz, hlen⟩ := diskOk_iff.1 hB
  rw [pVal_1 h.one, pVal_4 rfl rfl hg.one rfl]
  simp only [cellOf_agg, List.getD_cons_zero, List.getD_cons_succ]
  refine loop_rule (m := 12 - nx) (fun m l s => ∃ i : Nat, m + i = max nx 12 ∧ nx ≤ i ∧ Keeps σ s ∧ (∀ j, nx ≤ j → j < i → likeP (at0 B (2 + j)) gen = false) ∧ l = [.bool false, .int .i64 (i : Nat), v, .int .i64 gen, .string text, gv, .int .i64 (nx : Nat), .int .i64 0, .string ⟨#[]⟩, .slice none 0 0, .int .i64 0]) ?_
    ⟨nx, by omega, Nat.le_refl _, Keeps.refl _, fun j h1 h2 => by omega, rfl⟩
  rintro m l s L ⟨i, hm, hni, ks, hj, rfl⟩ hL
  simp only [vget, List.getD_cons_zero, List.getD_cons_succ]
  rw [pBin_lt, pIf_d]
  refine ⟨fun hlt => ?_, fun hge => ?_⟩
  · have hi : i < 12 := by omega
    have e1 : (2 : Int) + ((i : Nat) : Int) = ((2 + i : Nat) : Int) := by omega
    rw [pBin_add (by omega), e1]
    refine RSl.at1 (h.mono ks.le fun _ _ h => h) (at0_some (show 2 + i < B.length by omega)) fun g hg' _ => ?_
    rw [hg']
    have hts := hsz (2 + i)
    have hlk : likeP (at0 B (2 + i)) gen = likeP (at0 B (2 + i)) gen := rfl
    generalize ht : at0 B (2 + i) = t at hts
    refine spec_l22Cut (c := 32) (by omega) fun w Fw s1 k1 ow fw => ?_
    have next : likeP t gen = false → ∀ s', Keeps s1 s' → pBin Tryz.prog 3 .add (.int .i64 (i : Nat)) (.int .i64 1) (fun v19 => L [.bool false, v19, v, .int .i64 gen, .string text, gv, .int .i64 (nx : Nat), .int .i64 0, .string ⟨#[]⟩, .slice none 0 0, .int .i64 0] s') := by
      intro hl s' k'
      rw [pBin_add (by omega)]
      refine hL _ _ (m - 1) (by omega) ⟨i + 1, by omega, by omega, (ks.trans k1).trans k', fun j h1 h2 => ?_, rfl⟩
      by_cases e : j = i
      · subst e; rw [ht]; exact hl
      · exact hj j h1 (by omega)
    rw [(ow.rel (ok_str w0)).len, pBin_eq, pIf_d]
    refine ⟨fun h4 => ?_, fun h4 => next ?_ s1 (Keeps.refl _)⟩
    · obtain ⟨a, x, y, z, hW⟩ := list_four (show (cutS 32 t).length = 4 by omega)
      rw [hW] at ow
      have hl : likeP t gen = decide (a = hT ∧ gen ≤ num5 x) := by unfold likeP; rw [hW]
      refine word_at ow (j := 0) rfl fun g hg1 => ?_
      rw [hg1, pBin_seq, pIf_d]
      refine ⟨fun ha => ?_, fun ha => next ?_ s1 (Keeps.refl _)⟩
      · refine word_at ow (j := 1) rfl fun g hg1 => ?_
        rw [hg1]
        refine spec_l22Num ?_
        rw [pBin_ge, pIf_d]
        refine ⟨fun hx => ?_, fun hx => next ?_ s1 (Keeps.refl _)⟩
        · rw [pVal_4 rfl rfl rfl rfl]
          refine hno s1 (fun hc => ?_) (ks.trans k1)
          have := hc i hni hi
          rw [ht, hl, decide_eq_true ⟨ha, hx⟩] at this
          cases this
        · rw [hl]; exact decide_eq_false fun h => hx h.2
      · rw [hl]; exact decide_eq_false fun h => ha h.1
    · unfold likeP
      split
      · rename_i e; rw [e] at h4; exact absurd rfl h4
      · rfl
  · show pVal true 4 (.agg ⟨[.int .i64 gen, .string text, gv, .int .i64 (nx : Nat)]⟩) (R (.tuple ⟨[.agg ⟨[.int .i64 gen, .string text, gv, .int .i64 (nx : Nat)]⟩, .bool true]⟩) s)
    rw [pVal_4 rfl rfl hg.one rfl]
    exact hyes s (fun j h1 h2 => hj j h1 (by omega)) ks

/-- What opening gives. -/
abbrev OutO (w0 : World) (σ : Vw) (B : List ByteArray) (R : Value → Vw → Prop) : Prop := ∀ es F s, Keeps σ s → ASto w0 s F es (openR B).1 → (∀ i, i ∈ F → σ i = none) → R (.tuple ⟨[.agg ⟨es⟩, .bool (openR B).2]⟩) s

set_option maxHeartbeats 2000000 in
theorem spec_StoreOpen {v : Value} {B : List ByteArray} (h : RSl 1 RS (Av.get w0 σ) v B) {R : Value → Vw → Prop} (hR : OutO w0 σ B R) : AC Tryz.prog w0 n_spec_StoreOpen [.agg ⟨[v]⟩] σ R := by
  refine ac_spec_StoreOpen ?_
  unfold vc_spec_StoreOpen cs_spec_StoreOpen_1 cs_spec_StoreOpen_2
  rw [pVal_1 h.one]
  simp only [cellOf_agg, List.getD_cons_zero]
  have fail : ∀ s, Keeps σ s → openP B = none → R (.tuple ⟨[.agg ⟨[.int .i64 0, .string ⟨#[]⟩, .slice none 0 0, .int .i64 0]⟩, .bool false]⟩) s := fun s k e => by
    have := hR [.int .i64 0, .string ⟨#[]⟩, .slice none 0 0, .int .i64 0] [] s k (by rw [openR_none e]; exact ASto.zero) (fun i hi => by cases hi)
    rw [openR_none e] at this; exact this
  refine spec_DiskOk h ?_
  rw [pUn_not, pIf_b]
  refine ⟨fun hd => ?_, fun hd => ?_⟩
  · rw [pVal_4 rfl rfl rfl rfl]
    exact fail σ (Keeps.refl _) (open_none0 fun h => by rw [h.1] at hd; cases hd)
  have hB : diskOk B = true := by simpa using hd
  obtain ⟨hsz, hlen⟩ := diskOk_iff.1 hB
  refine spec_l22Found (slot := 0) h hB (by omega) fun s1 k1 => ?_
  rw [pExtract_s rfl, pExtract_s rfl]
  refine spec_l22Found (slot := 1) (h.mono k1.le fun _ _ h => h) hB (by omega) fun s2 k2 => ?_
  rw [pExtract_s rfl, pExtract_s rfl]
  have K2 := k1.trans k2
  -- behind the heads
  have rest : ∀ (gen n : Int), genP B = (gen, n) → pBin Tryz.prog 3 .eql (.int .i64 gen) (.int .i64 0) (fun v12 => pIf v12 (pVal true 4 (.agg (⟨[.int .i64 0, .string ({ data := #[] }), .slice none 0 0, .int .i64 0]⟩)) (R (.tuple (⟨[.agg (⟨[.int .i64 0, .string ({ data := #[] }), .slice none 0 0, .int .i64 0]⟩), .bool false]⟩)) s2)) (AC Tryz.prog w0 n_spec_l22Area [.int .i64 gen] s2 (fun v13 s14 => AC Tryz.prog w0 n_spec_l22Text ([.agg (⟨[v]⟩), v13, .int .i64 90, .int .i64 n, .int .i64 0]) s14 (fun v15 s16 => pExtract v15 0 (fun v17 => pExtract v15 1 (fun v18 => pUn UnOp.not v18 (fun v19 => pIf v19 (pVal true 4 (.agg (⟨[.int .i64 0, .string ({ data := #[] }), .slice none 0 0, .int .i64 0]⟩)) (R (.tuple (⟨[.agg (⟨[.int .i64 0, .string ({ data := #[] }), .slice none 0 0, .int .i64 0]⟩), .bool false]⟩)) s16)) (pVal false 1 (.int .i64 gen) (pVal false 1 v17 (pVal true 4 (.agg (⟨[.int .i64 gen, v17, .slice none 0 0, .int .i64 0]⟩)) (pLoop (fun l20 K21 s22 => pLen (vget l20 9) (fun v23 => AC Tryz.prog w0 n_spec_l22Group ([.agg (⟨[vget l20 2]⟩), vget l20 1, v23, vget l20 10]) s22 (fun v24 s25 => pExtract v24 0 (fun v26 => pExtract v24 1 (fun v27 => pBin Tryz.prog 3 .eql v27 (.int .i64 0) (fun v28 => pIf v28 (AC Tryz.prog w0 n_spec_l22Clean ([.agg (⟨[vget l20 2]⟩), .agg (⟨[vget l20 7, vget l20 8, vget l20 9, vget l20 10]⟩)]) s25 (fun v29 s30 => pExtract v29 0 (fun v31 => pExtract v29 1 (fun v32 => pVal true 4 v31 (K21 AX.ret [v32, vget l20 1, vget l20 2, cellOf v31 0, cellOf v31 1, cellOf v31 2, cellOf v31 3, vget l20 7, vget l20 8, vget l20 9, vget l20 10] s30))))) (pVal false 1 v26 ((allOne [v26]) ∧ (pAppend w0 t_string 1 16 (vget l20 9) 1 [v26] s25 (fun v33 s34 => pVal false 1 v33 (pBin Tryz.prog 3 .add (vget l20 10) v27 (fun v35 => pVal false 1 v35 (K21 AX.normal [vget l20 0, vget l20 1, vget l20 2, vget l20 3, vget l20 4, vget l20 5, vget l20 6, vget l20 7, vget l20 8, v33, v35] s34))))))))))))) ([.bool false, .int .i64 gen, v, .int .i64 0, .string ({ data := #[] }), .slice none 0 0, .int .i64 0, .int .i64 gen, v17, .slice none 0 0, .int .i64 0]) s16 (fun x36 l37 s38 => match x36 with | .normal => R (.tuple (⟨[.agg (⟨[vget l37 3, vget l37 4, vget l37 5, vget l37 6]⟩), vget l37 0]⟩)) s38 | .ret => R (.tuple (⟨[.agg (⟨[vget l37 3, vget l37 4, vget l37 5, vget l37 6]⟩), vget l37 0]⟩)) s38 | .exit i39 => (match Nat.beq i39 0 with | true => R (.tuple (⟨[.agg (⟨[vget l37 3, vget l37 4, vget l37 5, vget l37 6]⟩), vget l37 0]⟩)) s38 | false => False))))))))))))) := by
    intro gen n hgp
    have hg1 : (genP B).1 = gen := by rw [hgp]
    have hg2 : (genP B).2 = n := by rw [hgp]
    have hfa := gen_facts B
    rw [hg1, hg2] at hfa
    rw [pBin_eq, pIf_d]
    refine ⟨fun h0 => ?_, fun h0 => ?_⟩
    · rw [pVal_4 rfl rfl rfl rfl]
      exact fail s2 K2 (open_none0 fun h => h.2 (by rw [hg1]; exact h0))
    obtain ⟨hgb, hnb⟩ : (1 ≤ gen ∧ gen ≤ 99999) ∧ (0 ≤ n ∧ n ≤ 5760) := by
      rcases hfa with h | h
      · exact absurd h h0
      · exact h
    have hne : (genP B).1 ≠ 0 := by rw [hg1]; exact h0
    refine spec_l22Area (by omega) ?_
    have har := area_le (gen := gen) (by omega)
    have ea : areaI gen = (((areaI gen).toNat : Nat) : Int) := by omega
    have en : n = ((n.toNat : Nat) : Int) := by omega
    have ht0 := h.mono K2.le fun _ _ h => h
    rw [ea, en]
    refine spec_l22Text (skip := 0) (most := 90) ht0 hB (by omega) (by omega) (by omega) (fun t ht => ?_) (fun t ht => ?_)
    · rw [pExtract_s rfl, pExtract_s rfl, pUn_not, pIf_b]
      refine ⟨fun h => by simp at h, fun _ => ?_⟩
      have ht' : textP B 0 (genP B).2.toNat 90 (areaI (genP B).1).toNat ⟨#[]⟩ = some t := by rw [hg1, hg2]; exact ht
      have htz := textP_size _ _ _ ht
      rw [pVal1 rfl, pVal1 rfl, pVal_4 rfl rfl rfl rfl]
      refine loop_rule (m := 13) (fun m l s => ∃ (gs : List ByteArray) (gv : Value) (F : List Nat) (nx : Nat), m + gs.length = 13 ∧ gs.length ≤ nx ∧ nx ≤ 12 ∧ Keeps σ s ∧ (∀ i, i ∈ F → σ i = none) ∧ OAcc w0 t_string 1 OStr s F gv gs ∧ groupsP B gen 13 [] 0 = groupsP B gen m gs nx ∧ l = [.bool false, .int .i64 gen, v, .int .i64 0, .string ⟨#[]⟩, .slice none 0 0, .int .i64 0, .int .i64 gen, .string t, gv, .int .i64 (nx : Nat)]) ?_
        ⟨[], _, [], 0, rfl, Nat.le_refl _, by omega, K2, (fun i hi => by cases hi), OAcc.nil, rfl, rfl⟩
      rintro m l s L ⟨gs, gv, F, nx, hm, hgl, hnx, ks, hF, ho, hgr, rfl⟩ hL
      simp only [vget, List.getD_cons_zero, List.getD_cons_succ]
      obtain ⟨m, rfl⟩ : ∃ k, m = k + 1 := ⟨m - 1, by omega⟩
      unfold groupsP at hgr
      have hos := ho.osl.rel (ok_str w0)
      rw [hos.len]
      refine spec_l22Group (h.mono ks.le fun _ _ h => h) hB (fun g mm s3 hgp3 k3 => ?_) (fun s3 hgp3 k3 => ?_)
      · obtain ⟨q1, q2, q3, q4, _⟩ := group_facts hsz hgp3
        have hb := blk_600 q1
        rw [hgp3] at hgr
        simp only at hgr
        rw [pExtract_s rfl, pExtract_s rfl, pBin_eq, pIf_d]
        refine ⟨fun h => by omega, fun _ => ?_⟩
        have ho3 := ho.frame (ok_str w0) (k3.but_at fun b hb => (ho.dom (ok_str w0) b hb).2)
        refine str_app ho3 (by omega) (by omega) fun gv' F' s4 k4 o4 f4 => ?_
        rw [pVal1 (OSl.one' o4.osl), pBin_add (by omega), pVal1 rfl]
        have K3 := ks.trans k3
        refine hL _ _ m rfl ⟨gs ++ [g], gv', F', nx + mm, by simp; omega, by simp; omega, by omega, k4.old K3 hF, fresh_in K3 hF f4, o4, hgr, ?_⟩
        congr 1
      · rw [hgp3] at hgr
        simp only at hgr
        have hgr1 : (groupsP B (genP B).1 13 [] 0) = (gs, nx) := by rw [hg1]; exact hgr
        rw [pExtract_s rfl, pExtract_s rfl, pBin_eq, pIf_d]
        refine ⟨fun _ => ?_, fun h => absurd rfl h⟩
        have K3 := ks.trans k3
        have ho3 := ho.frame (ok_str w0) (k3.but_at fun b hb => (ho.dom (ok_str w0) b hb).2)
        refine spec_l22Clean (h.mono K3.le fun _ _ h => h) hB (ho3.osl.rel (ok_str w0)) (fun s4 hc k4 => ?_) (fun s4 hc k4 => ?_)
        · rw [pExtract_s rfl, pExtract_s rfl, pVal_4 rfl rfl (OSl.one' ho3.osl) rfl]
          have e := open_clean hB hne ht' (by rw [hgr1, hg1]; exact hc)
          rw [hgr1, hg1] at e
          have ho4 := ho3.frame (ok_str w0) (k4.but_at fun b hb => (ho3.dom (ok_str w0) b hb).2)
          have := hR [.int .i64 gen, .string t, gv, .int .i64 (nx : Nat)] F s4 (K3.trans k4) (by rw [openR_some e]; exact ⟨gv, rfl, ho4, by unfold rng'; simp only; omega, by simp only; omega, by unfold rng'; simp only; omega⟩) hF
          rw [openR_some e] at this
          exact this
        · rw [pExtract_s rfl, pExtract_s rfl, pVal_4 rfl rfl rfl rfl]
          exact fail s4 (K3.trans k4) (open_dirty hB hne ht' (by rw [hgr1, hg1]; exact hc))
    · rw [pExtract_s rfl, pExtract_s rfl, pUn_not, pIf_b]
      refine ⟨fun _ => ?_, fun h => by simp at h⟩
      rw [pVal_4 rfl rfl rfl rfl]
      exact fail s2 K2 (open_text hB hne (by rw [hg1, hg2]; exact ht))
  rw [pBin_gt, pIf_d]
  refine ⟨fun hgt => ?_, fun hle => ?_⟩
  · exact rest _ _ (by unfold genP; rw [if_pos (by simpa using hgt)]; rfl)
  · exact rest _ _ (by unfold genP; rw [if_neg (by simpa using hle)]; rfl)
end
end Go.Proofs.YtlfnfpdipghdiaaGreatDoor

/- What the laws on disks and stores say, without the program: pure. -/
set_option linter.unusedVariables false
set_option linter.unusedSimpArgs false
set_option maxRecDepth 20000
namespace Go.Proofs.YtlfnfpdipghdiaaGreatDoor
open Go Go.Av

/-! ### Two writes at different places -/
/-! ### A full log -/
/-! ### Opened -/
theorem open_ok {B : List ByteArray} {x : Sto} (h : openP B = some x) : stOk x = true ∧ diskOk B = true := by
  obtain ⟨gen, text, gs, rfl, hi⟩ := inv_of h
  obtain ⟨n1, n2, n3, n4, n5⟩ := hi.nums
  exact ⟨stOk_mk n1 n2 n3 n4, hi.disk⟩
/-- A new store, its writing cut. -/
theorem new_cut {t : ByteArray} (hs : t.size ≤ 5760) {c : Nat} (hc : c < (savedR 1 t).length) : openP (runD blankB ((savedR 1 t).take c)) = none := by
  rw [savedR_len] at hc
  unfold savedR
  rw [List.take_append_of_le_length (by rw [savedP_len]; omega)]
  have e : (savedP 1 t (manyN t 64)).take c = savedP 1 t c := by
    rw [savedP_seq (by omega), savedP_seq (by omega), seqW_take (by omega)]
  rw [e]
  exact new_part hs (by omega)
theorem new_open {t : ByteArray} (hs : t.size ≤ 5760) : openP (runD blankB (savedR 1 t)) = some (1, t, [], 0) := (new_all hs).open
theorem blank_open : openP blankB = none := new_part (t := ⟨#[]⟩) (c := 0) (Nat.zero_le _) (Nat.zero_le _)

/-! ### Played -/
/-- A step: whether it saves, its text, where it is cut. -/
abbrev Stp := Bool × ByteArray × Int
noncomputable def stepP (B : List ByteArray) (x : Sto) (e : Stp) : Option (List ByteArray × Sto) :=
  if (stR e.1 x e.2.1).2.2 ≠ 0 then some (B, x)
  else if e.2.2 < 0 then some (runD B (stR e.1 x e.2.1).1, (stR e.1 x e.2.1).2.1)
  else (openP (runD B ((stR e.1 x e.2.1).1.take e.2.2.toNat))).map fun z => (runD B ((stR e.1 x e.2.1).1.take e.2.2.toNat), z)
noncomputable def playP : List ByteArray → Sto → List Stp → Option (List ByteArray × Sto)
  | B, x, [] => some (B, x)
  | B, x, e :: es => match stepP B x e with
    | none => none
    | some y => playP y.1 y.2 es
/-- What is known of a store behind a step. -/
noncomputable def knowP (x : Sto) (e : Stp) : Sto := if (stR e.1 x e.2.1).2.2 = 0 ∧ (e.2.2 < 0 ∨ ((stR e.1 x e.2.1).1.length : Int) ≤ e.2.2) then (stR e.1 x e.2.1).2.1 else x
theorem step_fine {B : List ByteArray} {x : Sto} (h : openP B = some x) (e : Stp) : ∃ B', stepP B x e = some (B', knowP x e) ∧ openP B' = some (knowP x e) := by
  unfold stepP knowP
  by_cases hc : (stR e.1 x e.2.1).2.2 = 0
  · rw [if_neg (by simp [hc])]
    by_cases hn : e.2.2 < 0
    · rw [if_pos hn, if_pos ⟨hc, .inl hn⟩]
      have := step_open h hc (stR e.1 x e.2.1).1.length
      rw [List.take_length, if_neg (by omega)] at this
      exact ⟨_, rfl, this⟩
    · rw [if_neg hn]
      have := step_open h hc e.2.2.toNat
      rw [this]
      by_cases hl : e.2.2.toNat < (stR e.1 x e.2.1).1.length
      · rw [if_pos hl, if_neg (by rintro ⟨_, h | h⟩ <;> omega)]
        rw [if_pos hl] at this
        exact ⟨_, rfl, this⟩
      · rw [if_neg hl, if_pos ⟨hc, .inr (by omega)⟩]
        rw [if_neg hl] at this
        exact ⟨_, rfl, this⟩
  · rw [if_pos hc, if_neg fun h => hc h.1]
    exact ⟨B, rfl, h⟩
end Go.Proofs.YtlfnfpdipghdiaaGreatDoor

/- How a store is played, by the reference's hand. -/
set_option linter.unusedVariables false
set_option linter.unusedSimpArgs false
set_option maxRecDepth 20000
namespace Go.Proofs.YtlfnfpdipghdiaaGreatDoor
open Go Go.Av Go.RowKit

def encStp (e : Stp) : List Value := [.bool e.1, .string e.2.1, .int .i64 e.2.2]
def goodStp (e : Stp) : Prop := e.2.1.size ≤ 100000 ∧ rng' e.2.2
abbrev RStp := RFl encStp goodStp
abbrev OStp := OFl encStp goodStp
theorem ok_stp (w0 : World) : OOk w0 3 RStp OStp := ok_fl (n := 3) (enc := encStp) (good := goodStp) (fun _ => rfl) (fun x c h => by simp [encStp] at h; rcases h with rfl | rfl | rfl <;> rfl) w0

theorem writeD_all {B : List ByteArray} (hB : diskOk B = true) (xs : List Rw) : writeD B xs (xs.length : Nat) = runD B xs := by
  unfold writeD
  rw [if_pos hB]
  have : cutN (xs.length : Nat) xs.length = xs.length := by unfold cutN; omega
  rw [this, List.take_length]
theorem writeD_cut {B : List ByteArray} (hB : diskOk B = true) (xs : List Rw) {c : Int} (hc : 0 ≤ c) : writeD B xs c = runD B (xs.take c.toNat) := by
  unfold writeD
  rw [if_pos hB]
  have : cutN c xs.length = min c.toNat xs.length := by unfold cutN; omega
  rw [this]
  congr 1
  rcases Nat.le_total c.toNat xs.length with h | h
  · rw [Nat.min_eq_left h]
  · rw [Nat.min_eq_right h, List.take_length, List.take_of_length_le h]
theorem playP_snoc (e : Stp) : ∀ (es : List Stp) (B : List ByteArray) (x : Sto), playP B x (es ++ [e]) = (playP B x es).bind fun y => stepP y.1 y.2 e
  | [], B, x => by
    show (match stepP B x e with | none => none | some y => playP y.1 y.2 []) = stepP B x e
    cases stepP B x e with
    | none => rfl
    | some y => rfl
  | f :: es, B, x => by
    show (match stepP B x f with | none => none | some y => playP y.1 y.2 (es ++ [e])) = (match stepP B x f with | none => none | some y => playP y.1 y.2 es).bind fun y => stepP y.1 y.2 e
    cases stepP B x f with
    | none => rfl
    | some y => exact playP_snoc e es y.1 y.2

section
variable {w0 : World} {σ : Vw}

theorem spec_l23Step {v : Value} {B : List ByteArray} {es : List Value} {x : Sto} {e : Stp} (h : RSl 1 RS (Av.get w0 σ) v B) (hs : RSto (Av.get w0 σ) es x) (hop : openP B = some x) (he : goodStp e) {R : Value → Vw → Prop}
    (hR : ∀ v' es' B' x' s, stepP B x e = some (B', x') → openP B' = some x' → Keeps σ s → RSl 1 RS (Av.get w0 s) v' B' → RSto (Av.get w0 s) es' x' → R (.tuple ⟨[.agg ⟨[v']⟩, .agg ⟨es'⟩, .bool true]⟩) s) : AC Tryz.prog w0 n_spec_l23Step [.agg ⟨[v]⟩, .agg ⟨es⟩, .agg ⟨encStp e⟩] σ R := by
  refine ac_spec_l23Step ?_
  unfold vc_spec_l23Step cs_spec_l23Step_1
  obtain ⟨sv, t, c⟩ := e
  obtain ⟨he1, he2⟩ := he
  simp only at he1 he2
  have hB := (open_ok hop).2
  obtain ⟨q1, q2, q3, q4, q5⟩ := stOk_of (open_ok hop).1
  obtain ⟨B1, hst, hop1⟩ := step_fine hop (sv, t, c)
  have hs0 := hs
  rw [pVal_1 h.one, hs.four, show pVal true 3 (.agg ⟨encStp (sv, t, c)⟩) = fun A => A from funext fun A => propext (pVal_3 rfl rfl rfl)]
  obtain ⟨gv, rfl⟩ := hs.shape
  simp only [cellOf_agg, List.getD_cons_zero, List.getD_cons_succ, encStp]
  -- what is written, by a step
  have fin : ∀ (y : List Rw × Sto × Int) (w a0 a1 a2 a3 : Value) (F : List Nat) (s : Vw), y = stR sv x t → Keeps σ s → OSl w0 2 ORaw s F w y.1 → RSto (Av.get w0 s) [a0, a1, a2, a3] y.2.1 →
      pBin Tryz.prog 3 .neq (.int .i64 y.2.2) (.int .i64 0) (fun v21 => pIf v21 (pVal true 1 (.agg (⟨[v]⟩)) (pVal true 4 (.agg (⟨[.int .i64 x.1, .string x.2.1, gv, .int .i64 x.2.2.2]⟩)) (R (.tuple (⟨[.agg (⟨[v]⟩), .agg (⟨[.int .i64 x.1, .string x.2.1, gv, .int .i64 x.2.2.2]⟩), .bool true]⟩)) s))) (pBin Tryz.prog 3 .lss (.int .i64 c) (.int .i64 0) (fun v22 => pIf v22 (pLen w (fun v23 => AC Tryz.prog w0 n_spec_DiskWrite ([.agg (⟨[v]⟩), w, v23]) s (fun v24 s25 => pVal true 1 v24 (pVal true 4 (.agg (⟨[a0, a1, a2, a3]⟩)) (R (.tuple (⟨[.agg (⟨[cellOf v24 0]⟩), .agg (⟨[a0, a1, a2, a3]⟩), .bool true]⟩)) s25))))) (AC Tryz.prog w0 n_spec_DiskWrite ([.agg (⟨[v]⟩), w, .int .i64 c]) s (fun v26 s27 => pVal true 1 v26 (AC Tryz.prog w0 n_spec_StoreOpen ([.agg (⟨[cellOf v26 0]⟩)]) s27 (fun v28 s29 => pExtract v28 0 (fun v30 => pExtract v28 1 (fun v31 => pVal true 4 v30 (pVal true 1 (.agg (⟨[cellOf v26 0]⟩)) (pVal true 4 (.agg (⟨[cellOf v30 0, cellOf v30 1, cellOf v30 2, cellOf v30 3]⟩)) (R (.tuple (⟨[.agg (⟨[cellOf v26 0]⟩), .agg (⟨[cellOf v30 0, cellOf v30 1, cellOf v30 2, cellOf v30 3]⟩), v31]⟩)) s29)))))))))))) := by
    rintro y w a0 a1 a2 a3 F s rfl ks ow oy
    have hv := h.mono ks.le fun _ _ h => h
    have hw := ow.rel (ok_raw w0)
    have hs1 := mono_sto ks.le hs0
    have step : stepP B x (sv, t, c) = if (stR sv x t).2.2 ≠ 0 then some (B, x)
      else if c < 0 then some (runD B (stR sv x t).1, (stR sv x t).2.1)
      else (openP (runD B ((stR sv x t).1.take c.toNat))).map fun z => (runD B ((stR sv x t).1.take c.toNat), z) := rfl
    rw [pBin_ne, pIf_d]
    refine ⟨fun hc => ?_, fun hc => ?_⟩
    · rw [pVal_1 hv.one, hs1.four]
      rw [if_pos hc] at step
      exact hR _ _ B x s step hop ks hv hs1
    · rw [if_neg hc] at step
      rw [pBin_lt, pIf_d]
      refine ⟨fun hn => ?_, fun hn => ?_⟩
      · rw [if_pos hn] at step
        rw [hw.len]
        refine spec_DiskWrite hv hw fun v' F' s' k' o' f' => ?_
        rw [writeD_all hB] at o'
        have oy' := mono_sto k'.le oy
        rw [pVal_1 (OSl.one' o'), oy'.four]
        simp only [cellOf_agg, List.getD_cons_zero]
        have e := Option.some.inj (step.symm.trans hst)
        have e1 : runD B (stR sv x t).1 = B1 := congrArg Prod.fst e
        have e2 : (stR sv x t).2.1 = knowP x (sv, t, c) := congrArg Prod.snd e
        rw [← e1, ← e2] at hop1
        exact hR _ _ _ _ s' step hop1 (ks.trans k') (o'.rel (ok_str w0)) oy'
      · rw [if_neg hn] at step
        refine spec_DiskWrite hv hw fun v' F' s' k' o' f' => ?_
        rw [writeD_cut hB _ (by omega)] at o'
        rw [pVal_1 (OSl.one' o')]
        simp only [cellOf_agg, List.getD_cons_zero]
        have hv' := o'.rel (ok_str w0)
        cases hz : openP (runD B ((stR sv x t).1.take c.toNat)) with
        | none => rw [hz] at step; rw [step] at hst; cases hst
        | some z =>
          rw [hz] at step
          refine spec_StoreOpen hv' fun es2 F2 s2 k2 a2 f2 => ?_
          rw [openR_some hz] at a2 ⊢
          have r2 := a2.rsto
          rw [pExtract_s rfl, pExtract_s rfl, r2.four, pVal_1 hv'.one]
          have r20 := r2
          obtain ⟨g2, rfl⟩ := r2.shape
          simp only [cellOf_agg, List.getD_cons_zero, List.getD_cons_succ]
          rw [r20.four]
          exact hR _ _ _ _ s2 step hz ((ks.trans k').trans k2) (hv'.mono k2.le fun _ _ h => h) r20
  refine spec_StoreAppend hs0 (by omega) (by omega) fun v1 es1 F1 G1 s1 k1 o1 p1 f1 g1 d1 => ?_
  have r1 := (ok_sto w0).rel _ _ _ _ p1
  rw [pExtract_s rfl, pExtract_s rfl, pExtract_s rfl, r1.four, pIf_b]
  refine ⟨fun hsv => ?_, fun hsv => ?_⟩
  · refine spec_StoreSave (mono_sto k1.le hs0) (by omega) (by omega) fun v2 es2 F2 G2 s2 k2 o2 p2 f2 g2 d2 => ?_
    have r2 := (ok_sto w0).rel _ _ _ _ p2
    rw [pExtract_s rfl, pExtract_s rfl, pExtract_s rfl, r2.four]
    have r20 := r2
    obtain ⟨g2, rfl⟩ := r2.shape
    simp only [cellOf_agg, List.getD_cons_zero, List.getD_cons_succ]
    exact fin (saveR x t) v2 _ _ _ _ F2 s2 (by unfold stR; rw [if_pos hsv]) (k1.trans k2) o2 r20
  · have r10 := r1
    obtain ⟨g1, rfl⟩ := r1.shape
    simp only [cellOf_agg, List.getD_cons_zero, List.getD_cons_succ]
    exact fin (appR x t) v1 _ _ _ _ F1 s1 (by unfold stR; rw [if_neg (by rw [hsv]; simp)]) k1 o1 r10

theorem stp_at {v : Value} {xs : List Stp} (h : RSl 3 RStp (Av.get w0 σ) v xs) {j : Nat} {x : Stp} (hj : xs[j]? = some x) {K : (Nat → Value) → Prop} (hK : ∀ g : Nat → Value, g 0 = .bool x.1 → g 1 = .string x.2.1 → g 2 = .int .i64 x.2.2 → goodStp x → K g) : pIndexAddr 3 v (.int .i64 (j : Nat)) fun p => pLoad w0 3 p σ K := by
  refine h.at hj fun g hg => ?_
  obtain ⟨hg, hgood⟩ := hg
  simp only [expl, encStp, List.cons.injEq, and_true] at hg
  exact hK g hg.1 hg.2.1 hg.2.2 hgood

set_option maxHeartbeats 1000000 in
theorem spec_StorePlay {v u : Value} {B : List ByteArray} {es : List Stp} (h : RSl 1 RS (Av.get w0 σ) v B) (hu : RSl 3 RStp (Av.get w0 σ) u es) {R : Value → Vw → Prop}
    (hno : ∀ s, openP B = none → Keeps σ s → R (.tuple ⟨[.agg ⟨[.slice none 0 0]⟩, .agg ⟨[.int .i64 0, .string ⟨#[]⟩, .slice none 0 0, .int .i64 0]⟩, .bool false]⟩) s)
    (hyes : ∀ v' es' x B' x' s, openP B = some x → playP B x es = some (B', x') → openP B' = some x' → Keeps σ s → RSl 1 RS (Av.get w0 s) v' B' → RSto (Av.get w0 s) es' x' → R (.tuple ⟨[.agg ⟨[v']⟩, .agg ⟨es'⟩, .bool true]⟩) s) : AC Tryz.prog w0 n_spec_StorePlay [.agg ⟨[v]⟩, u] σ R := by
  refine ac_spec_StorePlay ?_
  unfold vc_spec_StorePlay
  rw [pVal_1 h.one]
  simp only [cellOf_agg, List.getD_cons_zero]
  have hul := hu.le
  refine spec_StoreOpen h fun es1 F1 s1 k1 a1 f1 => ?_
  have r1 := a1.rsto
  rw [pExtract_s rfl, pExtract_s rfl, r1.four, pUn_not]
  cases hop : openP B with
  | none =>
    rw [openR_none hop, pIf_b]
    refine ⟨fun _ => ?_, fun h => by simp at h⟩
    rw [pVal_1 rfl, pVal_4 rfl rfl rfl rfl]
    exact hno s1 hop k1
  | some x =>
    rw [openR_some hop] at r1 ⊢
    rw [pIf_b]
    refine ⟨fun h => by simp at h, fun _ => ?_⟩
    have hlen := (diskOk_iff.1 (open_ok hop).2).2
    refine spec_Copy (h.mono k1.le fun _ _ h => h) (by omega) fun v2 F2 s2 k2 o2 f2 => ?_
    have hv2 := o2.osl.rel (ok_str w0)
    rw [pVal_1 hv2.one]
    have r10 := r1
    obtain ⟨gv, rfl⟩ := r1.shape
    simp only [cellOf_agg, List.getD_cons_zero, List.getD_cons_succ]
    have K2 := k1.trans k2
    refine loop_rule (m := es.length) (fun m l s => ∃ (j : Nat) (Bj : List ByteArray) (xj : Sto) (dv c0 c1 c2 c3 : Value), m + j = es.length ∧ playP B x (es.take j) = some (Bj, xj) ∧ openP Bj = some xj ∧ Keeps σ s ∧ RSl 1 RS (Av.get w0 s) dv Bj ∧ RSto (Av.get w0 s) [c0, c1, c2, c3] xj ∧ l = [u, .bool false, .int .i64 (j : Nat), .slice none 0 0, .int .i64 0, .string ⟨#[]⟩, .slice none 0 0, .int .i64 0, c0, c1, c2, c3, dv]) ?_
      ⟨0, B, x, v2, _, _, _, _, by omega, rfl, hop, K2, hv2, mono_sto k2.le r10, rfl⟩
    rintro m l s L ⟨j, Bj, xj, dv, c0, c1, c2, c3, hm, hpl, hopj, ks, hd, hx, rfl⟩ hL
    simp only [vget, List.getD_cons_zero, List.getD_cons_succ]
    have hus := hu.mono ks.le fun _ _ h => h
    rw [hus.len, pBin_lt, pIf_d]
    refine ⟨fun hj => ?_, fun hj => ?_⟩
    · have he := List.getElem?_eq_getElem (show j < es.length by omega)
      generalize es[j]'(by omega) = e at he
      refine stp_at hus he fun g g0 g1 g2 hgood => ?_
      rw [g0, g1, g2]
      show AC Tryz.prog w0 n_spec_l23Step ([.agg (⟨[dv]⟩), .agg (⟨[c0, c1, c2, c3]⟩), .agg (⟨encStp e⟩)]) s _
      refine spec_l23Step hd hx hopj hgood fun v' es' B' x' s3 hst hop' k3 hv' hx' => ?_
      rw [pExtract_s rfl, pExtract_s rfl, pExtract_s rfl, pVal_1 hv'.one, hx'.four, pUn_not, pIf_b]
      refine ⟨fun h => by simp at h, fun _ => ?_⟩
      rw [pVal_1 (show (cellOf (.agg ⟨[v']⟩) 0).oneCell' = true from hv'.one)]
      have hx0 := hx'
      obtain ⟨gv', rfl⟩ := hx'.shape
      simp only [cellOf_agg, List.getD_cons_zero, List.getD_cons_succ]
      rw [hx0.four, pBin_add (by omega)]
      have ht : es.take (j + 1) = es.take j ++ [e] := by rw [List.take_add_one, he, Option.toList_some]
      refine hL _ _ (m - 1) (by omega) ⟨j + 1, B', x', v', _, _, _, _, by omega, ?_, hop', ks.trans k3, hv', hx0, rfl⟩
      rw [ht, playP_snoc, hpl]
      exact hst
    · have e : j = es.length := by omega
      subst e
      rw [List.take_length] at hpl
      have hlj := (diskOk_iff.1 (open_ok hopj).2).2
      obtain ⟨_, _, _, _, q5⟩ := stOk_of (open_ok hopj).1
      obtain ⟨gen, text, gs, next⟩ := xj
      obtain ⟨gv', e4, hg, hrest⟩ := hx
      simp only [List.cons.injEq, and_true] at e4
      obtain ⟨rfl, rfl, rfl, rfl⟩ := e4
      show AC Tryz.prog w0 n_spec_l21Copy ([.agg (⟨[dv]⟩)]) s _
      refine spec_Copy hd (by omega) fun v3 F3 s3 k3 o3 f3 => ?_
      show AC Tryz.prog w0 n_spec_l22Copy ([.agg (⟨[.int .i64 gen, .string text, c2, .int .i64 next]⟩)]) s3 _
      refine spec_l22Copy (hg.mono k3.le fun _ _ h => h) (by have q : gs.length ≤ 12 := q5; omega) fun v4 F4 s4 k4 o4 f4 => ?_
      have o3' := o3.frame (ok_str w0) (k4.but_at fun b hb => (o3.dom (ok_str w0) b hb).2)
      have hv3 := o3'.osl.rel (ok_str w0)
      have hg4 := o4.osl.rel (ok_str w0)
      rw [pVal_1 hv3.one, pVal_4 rfl rfl hg4.one rfl]
      simp only [cellOf_agg, List.getD_cons_zero, List.getD_cons_succ]
      exact hyes v3 _ x Bj (gen, text, gs, next) s4 hop hpl hopj ((ks.trans k3).trans k4) hv3 ⟨v4, rfl, hg4, hrest⟩
end
end Go.Proofs.YtlfnfpdipghdiaaGreatDoor

/- Paths: their order, what lies within what; marks. -/
set_option linter.unusedVariables false
set_option linter.unusedSimpArgs false
namespace Go.Proofs.YtlfnfpdipghdiaaGreatDoor
open Go Go.Av

section
variable {w0 : World} {σ : Vw}

end
end Go.Proofs.YtlfnfpdipghdiaaGreatDoor

/- Trails: when one is sound; the law 'TrailOk', of the functions alone. -/
set_option linter.unusedVariables false
set_option linter.unusedSimpArgs false
namespace Go.Proofs.YtlfnfpdipghdiaaGreatDoor
open Go Go.Av

section
variable {w0 : World} {σ : Vw}

theorem RSl.take {α : Type} {n : Nat} {Rl : (Addr → Option Value) → List Value → α → Prop} {v : Value} {xs : List α} (h : RSl n Rl (Av.get w0 σ) v xs) {j : Nat} (hj : j ≤ xs.length) {K : Value → Prop} (hK : ∀ v', RSl n Rl (Av.get w0 σ) v' (xs.take j) → K v') : pSlice n v none (some (.int .i64 j)) K := by
  obtain ⟨A, cap, rfl, hc, h3⟩ := h
  refine ⟨A, xs.length, cap, 0, j, rfl, rfl, rfl, by omega, by omega, by omega, hK _ ?_⟩
  have hl : (xs.take j).length = j := by simp; omega
  refine ⟨if cap = (0 : Int).toNat then A else A.map (·.add ((0 : Int).toNat * n)), cap - (0 : Int).toNat, by rw [hl]; simp, ⟨by rw [hl]; simp; omega, by simp; omega⟩, fun i x hi => ?_⟩
  have hij : i < j := by have := (List.getElem?_eq_some_iff.1 hi).1; rw [hl] at this; exact this
  rw [List.getElem?_take_of_lt hij] at hi
  obtain ⟨a, es, rfl, h5, h6, h7⟩ := h3 i x hi
  refine ⟨a, es, ?_, h5, h6, h7⟩
  split
  · rfl
  · simp [Addr.add]

end
end Go.Proofs.YtlfnfpdipghdiaaGreatDoor

/- The law 'TrailOk', of the functions alone. -/
set_option linter.unusedVariables false
set_option linter.unusedSimpArgs false
namespace Go.Proofs.YtlfnfpdipghdiaaGreatDoor
open Go Go.Av

section
variable {w0 : World} {σ : Vw}

end
end Go.Proofs.YtlfnfpdipghdiaaGreatDoor

/- Trees: what is read of one; their size, their copy, their comparison. -/
set_option linter.unusedVariables false
set_option linter.unusedSimpArgs false
namespace Go.Proofs.YtlfnfpdipghdiaaGreatDoor
open Go Go.Av

inductive Tr where
  | mk (dir : Bool) (mode : Int) (text : ByteArray) (names : List ByteArray) (kids : List Tr)
noncomputable instance : DecidableEq Tr := fun _ _ => Classical.propDecidable _

section
variable {w0 : World} {σ : Vw}

end
end Go.Proofs.YtlfnfpdipghdiaaGreatDoor

/- Trees: their copy, their comparison. -/
set_option linter.unusedVariables false
set_option linter.unusedSimpArgs false
namespace Go.Proofs.YtlfnfpdipghdiaaGreatDoor
open Go Go.Av

section
variable {w0 : World}

end
end Go.Proofs.YtlfnfpdipghdiaaGreatDoor

/- Trees: when one is sound. -/
set_option linter.unusedVariables false
set_option linter.unusedSimpArgs false
namespace Go.Proofs.YtlfnfpdipghdiaaGreatDoor
open Go Go.Av

section
variable {w0 : World} {σ : Vw}

end
end Go.Proofs.YtlfnfpdipghdiaaGreatDoor

/- Trees: sound by either reading. -/
set_option linter.unusedVariables false
set_option linter.unusedSimpArgs false
namespace Go.Proofs.YtlfnfpdipghdiaaGreatDoor
open Go Go.Av

section
variable {w0 : World}

end
end Go.Proofs.YtlfnfpdipghdiaaGreatDoor

/- Trees: sound by the program's own reading. -/
set_option linter.unusedVariables false
set_option linter.unusedSimpArgs false
namespace Go.Proofs.YtlfnfpdipghdiaaGreatDoor
open Go Go.Av

section
variable {w0 : World}

end
end Go.Proofs.YtlfnfpdipghdiaaGreatDoor

/- Trees: how many paths; the laws 'TreeOk' and 'TreeCount', of the functions alone. -/
set_option linter.unusedVariables false
set_option linter.unusedSimpArgs false
namespace Go.Proofs.YtlfnfpdipghdiaaGreatDoor
open Go Go.Av

section
variable {w0 : World}

end
end Go.Proofs.YtlfnfpdipghdiaaGreatDoor

/- Trees: the laws 'TreeOk' and 'TreeCount', of the functions alone. -/
set_option linter.unusedVariables false
set_option linter.unusedSimpArgs false
namespace Go.Proofs.YtlfnfpdipghdiaaGreatDoor
open Go Go.Av

section
variable {w0 : World} {σ : Vw}

end
end Go.Proofs.YtlfnfpdipghdiaaGreatDoor

/- How a tree is opened that came with the call. -/
set_option linter.unusedVariables false
set_option linter.unusedSimpArgs false
namespace Go.Proofs.YtlfnfpdipghdiaaGreatDoor
open Go Go.Av Go.RowKit

end Go.Proofs.YtlfnfpdipghdiaaGreatDoor

/- What is at a path of a tree, by either reading. -/
set_option linter.unusedVariables false
set_option linter.unusedSimpArgs false
namespace Go.Proofs.YtlfnfpdipghdiaaGreatDoor
open Go Go.Av

section
variable {w0 : World} {σ : Vw}

end
end Go.Proofs.YtlfnfpdipghdiaaGreatDoor

/- Reading and listing: the functions 'TreeRead' and 'TreeList' by either text. -/
set_option linter.unusedVariables false
set_option linter.unusedSimpArgs false
namespace Go.Proofs.YtlfnfpdipghdiaaGreatDoor
open Go Go.Av

section
variable {w0 : World} {σ : Vw}

end
end Go.Proofs.YtlfnfpdipghdiaaGreatDoor

/- Marks of trees. -/
set_option linter.unusedVariables false
set_option linter.unusedSimpArgs false
namespace Go.Proofs.YtlfnfpdipghdiaaGreatDoor
open Go Go.Av

section
variable {w0 : World} {σ : Vw}

end
end Go.Proofs.YtlfnfpdipghdiaaGreatDoor

/- The laws 'TreeRead' and 'TreeList', of the functions alone. -/
set_option linter.unusedVariables false
set_option linter.unusedSimpArgs false
namespace Go.Proofs.YtlfnfpdipghdiaaGreatDoor
open Go Go.Av

section
variable {w0 : World} {σ : Vw}

end
end Go.Proofs.YtlfnfpdipghdiaaGreatDoor

/- 'TreeAt': copies of trees by either hand; marks of trees that are results; the law. -/
set_option linter.unusedVariables false
set_option linter.unusedSimpArgs false
namespace Go.Proofs.YtlfnfpdipghdiaaGreatDoor
open Go Go.Av

section
variable {w0 : World} {σ : Vw}

end
end Go.Proofs.YtlfnfpdipghdiaaGreatDoor

/- Lists of our own that grow, whose elements are read where they lie, old or new: what an append keeps. -/
set_option linter.unusedVariables false
set_option linter.unusedSimpArgs false
namespace Go.Av
open Go Go.RowKit

section
variable {P : Program} {w0 : World} {σ σ' : Vw} {α : Type}

variable {ety n : Nat} {Rel : (Addr → Option Value) → List Value → α → Prop}
end
end Go.Av
namespace Go.Proofs.YtlfnfpdipghdiaaGreatDoor
open Go Go.Av
end Go.Proofs.YtlfnfpdipghdiaaGreatDoor

/- A tree in which something else is set at a path, by the reference's hand: that it is one, and not too large. -/
set_option linter.unusedVariables false
set_option linter.unusedSimpArgs false
namespace Go.Proofs.YtlfnfpdipghdiaaGreatDoor
open Go Go.Av

section
variable {w0 : World} {σ : Vw}

end
end Go.Proofs.YtlfnfpdipghdiaaGreatDoor

/- Bytes written into a text, by the reference's hand: how many they are. -/
set_option linter.unusedVariables false
set_option linter.unusedSimpArgs false
namespace Go.Proofs.YtlfnfpdipghdiaaGreatDoor
open Go Go.Av

section
variable {w0 : World} {σ : Vw}

end
end Go.Proofs.YtlfnfpdipghdiaaGreatDoor

/- Marks of marks. -/
set_option linter.unusedVariables false
set_option linter.unusedSimpArgs false
namespace Go.Proofs.YtlfnfpdipghdiaaGreatDoor
open Go Go.Av

section
variable {w0 : World} {σ : Vw}

/-! ### Marks of marks -/
end
end Go.Proofs.YtlfnfpdipghdiaaGreatDoor

/- Calls; marks of marks; the trail of a call by either hand; the law 'TrailOf'. -/
set_option linter.unusedVariables false
set_option linter.unusedSimpArgs false
namespace Go.Proofs.YtlfnfpdipghdiaaGreatDoor
open Go Go.Av

section
variable {w0 : World} {σ : Vw}

end

end Go.Proofs.YtlfnfpdipghdiaaGreatDoor

/- Entries of a layer: size, copy, comparison, marks. -/
set_option linter.unusedVariables false
set_option linter.unusedSimpArgs false
namespace Go.Proofs.YtlfnfpdipghdiaaGreatDoor
open Go Go.Av

section
variable {w0 : World} {σ : Vw}

end

end Go.Proofs.YtlfnfpdipghdiaaGreatDoor

/- Decimals of the tree's own hand; hex. -/
set_option linter.unusedVariables false
set_option linter.unusedSimpArgs false
namespace Go.Proofs.YtlfnfpdipghdiaaGreatDoor
open Go Go.Av Go.RowKit

section
variable {w0 : World} {σ : Vw}

end
end Go.Proofs.YtlfnfpdipghdiaaGreatDoor

/- Paths and trails as texts; the law 'TrailShow'. -/
set_option linter.unusedVariables false
set_option linter.unusedSimpArgs false
namespace Go.Proofs.YtlfnfpdipghdiaaGreatDoor
open Go Go.Av Go.RowKit

section
variable {w0 : World} {σ : Vw}

end
end Go.Proofs.YtlfnfpdipghdiaaGreatDoor

/- Bytes in rows of our own; hex by the program's hand; a line of a tree. -/
set_option linter.unusedVariables false
set_option linter.unusedSimpArgs false
namespace Go.Proofs.YtlfnfpdipghdiaaGreatDoor
open Go Go.Av Go.RowKit

section
variable {w0 : World} {σ : Vw}

end
end Go.Proofs.YtlfnfpdipghdiaaGreatDoor

/- A tree as a text: what it is, and by the reference's hand; a line by the program's. -/
set_option linter.unusedVariables false
set_option linter.unusedSimpArgs false
namespace Go.Proofs.YtlfnfpdipghdiaaGreatDoor
open Go Go.Av Go.RowKit

section
variable {w0 : World} {σ : Vw}

end
end Go.Proofs.YtlfnfpdipghdiaaGreatDoor

/- What is said of a tree part by part, in order: a list. -/
set_option linter.unusedVariables false
set_option linter.unusedSimpArgs false
namespace Go.Proofs.YtlfnfpdipghdiaaGreatDoor
open Go Go.Av

section
variable {w0 : World} {σ : Vw} {α : Type}

/-! ### By the reference's hand: a loop over the kids -/
end
end Go.Proofs.YtlfnfpdipghdiaaGreatDoor

/- A box into which one more is put; a row that stays. -/
set_option linter.unusedVariables false
set_option linter.unusedSimpArgs false
namespace Go.Proofs.YtlfnfpdipghdiaaGreatDoor
open Go Go.Av

section
variable {w0 : World} {σ : Vw} {α : Type}

end
end Go.Proofs.YtlfnfpdipghdiaaGreatDoor

/- Texts in order; two lists of named parts in step. -/
set_option linter.unusedVariables false
set_option linter.unusedSimpArgs false
namespace Go.Proofs.YtlfnfpdipghdiaaGreatDoor
open Go Go.Av

/-! ### Sorted and compacted -/
section
variable {α : Type} [DecidableEq α] [Inhabited α]
end
/-! ### In step -/
end Go.Proofs.YtlfnfpdipghdiaaGreatDoor

/- slices.Sort and slices.Compact on texts in rows of our own; the names of either of two parts. -/
set_option linter.unusedVariables false
set_option linter.unusedSimpArgs false
namespace Go.Proofs.YtlfnfpdipghdiaaGreatDoor
open Go Go.Av Go.RowKit Go.Sort

section
variable {w0 : World} {σ : Vw} {α : Type}

end
end Go.Proofs.YtlfnfpdipghdiaaGreatDoor

/- What becomes of a part, with all below: what it is; by the reference's hand. -/
set_option linter.unusedVariables false
set_option linter.unusedSimpArgs false
set_option maxRecDepth 20000
namespace Go.Proofs.YtlfnfpdipghdiaaGreatDoor
open Go Go.Av

section
variable {w0 : World} {σ : Vw}

end
end Go.Proofs.YtlfnfpdipghdiaaGreatDoor

/- What becomes of a part, with all below: by the program's hand. -/
set_option linter.unusedVariables false
set_option linter.unusedSimpArgs false
set_option maxRecDepth 20000
namespace Go.Proofs.YtlfnfpdipghdiaaGreatDoor
open Go Go.Av

section
variable {w0 : World} {σ : Vw}

end
end Go.Proofs.YtlfnfpdipghdiaaGreatDoor

/- A call done in a tree by the reference's hand: that it gives a tree, and not too large a one. -/
set_option linter.unusedVariables false
set_option linter.unusedSimpArgs false
namespace Go.Proofs.YtlfnfpdipghdiaaGreatDoor
open Go Go.Av

section
variable {w0 : World} {σ : Vw}

end
end Go.Proofs.YtlfnfpdipghdiaaGreatDoor

/- A call done in a tree by the reference's hand: files, moves, all of it. -/
set_option linter.unusedVariables false
set_option linter.unusedSimpArgs false
namespace Go.Proofs.YtlfnfpdipghdiaaGreatDoor
open Go Go.Av

section
variable {w0 : World} {σ : Vw}

end
end Go.Proofs.YtlfnfpdipghdiaaGreatDoor

/- The reader of a code that a draw is drawn from: a row of its own that is hidden from all else; its picks. -/
set_option linter.unusedVariables false
set_option linter.unusedSimpArgs false
namespace Go.Av
open Go Go.RowKit

/-- A view without a row. -/
def Vw.del (σ : Vw) (b : Nat) : Vw := fun i => if i = b then none else σ i
theorem del_at {σ : Vw} {b : Nat} : (σ.del b) b = none := by simp [Vw.del]
theorem del_ne {σ : Vw} {b i : Nat} (h : i ≠ b) : (σ.del b) i = σ i := by simp [Vw.del, h]
theorem del_put {σ : Vw} {b : Nat} {r : Row} (h : σ b = none) : (σ.put b r).del b = σ := by
  funext i
  by_cases e : i = b
  · subst e; simp [Vw.del, h]
  · simp [Vw.del, Vw.put, e]
theorem del_some {σ : Vw} {b i : Nat} {r : Row} (h : (σ.del b) i = some r) : i ≠ b ∧ σ i = some r := by
  by_cases e : i = b
  · subst e; rw [del_at] at h; cases h
  · exact ⟨e, by rw [del_ne e] at h; exact h⟩
theorem del_keeps {σ : Vw} {b : Nat} : Keeps (σ.del b) σ := fun i r h => (del_some h).2
theorem del_le {w0 : World} {σ : Vw} {b : Nat} : Le (Av.get w0 (σ.del b)) (Av.get w0 σ) := del_keeps.le

/-- A call does not see a row that is kept from it, and leaves it. -/
theorem AC.hide {P : Program} {w0 : World} {f : FuncId} {args : List Value} {σ : Vw} {R R' : Value → Vw → Prop} {b : Nat} {r : Row} (hb : σ b = some r) (h : AC P w0 f args (σ.del b) R) (hR : ∀ v σ', σ' b = none → R v σ' → R' v (σ'.put b r)) : AC P w0 f args σ R' := by
  refine ⟨h.1, fun w hw => ?_⟩
  have hs : Sat w0 (σ.del b) w := ⟨hw.bel, fun i r' hi => hw.row i r' (del_some hi).2⟩
  refine (h.2 w hs).mono ?_
  rintro e w' ⟨v, σ', he, hRv, ha⟩
  have hlt := hw.lt hb
  have hn : σ' b = none := by
    cases hc : σ' b with
    | none => rfl
    | some r' =>
      rcases ha.dom b r' hc with h1 | h1
      · exact absurd del_at h1
      · omega
  refine ⟨v, σ'.put b r, he, hR v σ' hn hRv, ⟨⟨ha.sat.bel, fun i r' hi => ?_⟩, ha.size, fun i hi hni => ?_, fun i r' hi => ?_⟩⟩
  · by_cases e : i = b
    · subst e
      rw [put_at] at hi; cases hi
      obtain ⟨h1, cur, h2, h3⟩ := hw.row i _ hb
      exact ⟨h1, cur, (ha.fr i hlt del_at).trans h2, h3⟩
    · rw [put_ne e] at hi
      exact ha.sat.row i r' hi
  · refine ha.fr i hi ?_
    by_cases e : i = b
    · subst e; exact del_at
    · rw [del_ne e]; exact hni
  · by_cases e : i = b
    · subst e; exact .inl (by rw [hb]; simp)
    · rw [put_ne e] at hi
      rcases ha.dom i r' hi with h1 | h1
      · exact .inl (by rw [del_ne e] at h1; exact h1)
      · exact .inr h1
end Go.Av
namespace Go.Proofs.YtlfnfpdipghdiaaGreatDoor
open Go Go.Av Go.RowKit

theorem pBin_xor {P : Program} {T : Nat} {a b : Int} {K : Value → Prop} (ha : 0 ≤ a ∧ a ≤ 9223372036854775807) (hb : 0 ≤ b ∧ b ≤ 9223372036854775807) (hK : ∀ c : Int, 0 ≤ c ∧ c ≤ 9223372036854775807 → K (.int .i64 c)) : pBin P T .xor (.int .i64 a) (.int .i64 b) K := by
  obtain ⟨m, rfl⟩ : ∃ m : Nat, a = m := ⟨a.toNat, by omega⟩
  obtain ⟨n, rfl⟩ : ∃ n : Nat, b = n := ⟨b.toNat, by omega⟩
  refine ⟨_, rfl, ?_⟩
  have h1 : (BitVec.ofInt 64 (m : Int) ^^^ BitVec.ofInt 64 (n : Int)).toNat = m ^^^ n := by
    rw [BitVec.toNat_xor]
    simp only [BitVec.ofInt_natCast, BitVec.toNat_ofNat]
    rw [Nat.mod_eq_of_lt (by omega), Nat.mod_eq_of_lt (by omega)]
  have h2 : m ^^^ n < 2 ^ 63 := Nat.xor_lt_two_pow (by omega) (by omega)
  show K (.int .i64 (IntKind.i64.wrap ((BitVec.ofInt 64 (m : Int) ^^^ BitVec.ofInt 64 (n : Int)).toNat : Int)))
  rw [h1, IntWalk.i64_in _ (by omega)]
  exact hK _ (by omega)
section
variable {w0 : World} {σ : Vw}

/-- A byte that is read. -/
def RU8 (rd : Addr → Option Value) (es : List Value) (x : Nat) : Prop := es = [.int .u8 (x : Int)] ∧ x ≤ 255
/-- The reader: its row, how far it has come at most. -/
def RD (w0 : World) (σ : Vw) (b p : Nat) : Prop := ∃ (u : Value) (q ety cap : Nat) (bs : List Nat), w0.heap.size ≤ b ∧ σ b = some ⟨ety, [u, .int .i64 (q : Nat)], cap, (0, 0)⟩ ∧ q ≤ p ∧ RSl 1 RU8 (Av.get w0 (fun _ => none)) u bs ∧ bs.length ≤ 2000

theorem RD.more {b p p' : Nat} (h : RD w0 σ b p) (hp : p ≤ p') : RD w0 σ b p' := by
  obtain ⟨u, q, ety, cap, bs, h1, h2, h3, h4⟩ := h
  exact ⟨u, q, ety, cap, bs, h1, h2, by omega, h4⟩
/-- The reader's row is not touched, the rest is kept. -/
theorem RD.keep {b p : Nat} {s : Vw} (h : RD w0 σ b p) (hb : s b = σ b) : RD w0 s b p := by
  obtain ⟨u, q, ety, cap, bs, h1, h2, h3, h4, h5⟩ := h
  exact ⟨u, q, ety, cap, bs, h1, by rw [hb]; exact h2, h3, h4, h5⟩
/-- Calls that have nothing to do with the reader. -/
theorem RD.hide {b p : Nat} (h : RD w0 σ b p) {f : FuncId} {args : List Value} {R R' : Value → Vw → Prop} (hc : AC Tryz.prog w0 f args (σ.del b) R) (hR : ∀ v s, Keeps (σ.del b) (s.del b) → RD w0 s b p → R v (s.del b) → R' v s) (hk : ∀ v s, R v s → Keeps (σ.del b) s) : AC Tryz.prog w0 f args σ R' := by
  obtain ⟨u, q, ety, cap, bs, h1, h2, h3, h4, h5⟩ := h
  refine AC.hide h2 hc fun v s hs hRv => ?_
  have hd : (s.put b ⟨ety, [u, .int .i64 (q : Nat)], cap, (0, 0)⟩).del b = s := del_put hs
  have k := hk v s hRv
  refine hR v _ (by rw [hd]; exact k) ⟨u, q, ety, cap, bs, h1, put_at, h3, h4, h5⟩ (by rw [hd]; exact hRv)
end
end Go.Proofs.YtlfnfpdipghdiaaGreatDoor

/- What is drawn from a code: numbers, names, bytes; a call done in a tree, in all. -/
set_option linter.unusedVariables false
set_option linter.unusedSimpArgs false
namespace Go.Proofs.YtlfnfpdipghdiaaGreatDoor
open Go Go.Av Go.RowKit

section
variable {w0 : World} {σ : Vw}

abbrev ptr (b : Nat) : Value := .pointer (some (Addr.mk b 0 none))
theorem spec_pick {b p n : Nat} (h : RD w0 σ b p) (hp : p ≤ 100000000) (hn : 0 < n ∧ n ≤ 1000000000) {R : Value → Vw → Prop} (hR : ∀ (k : Nat) s, k < n → RD w0 s b (p + 1) → s.del b = σ.del b → (∀ i, i ≠ b → s i = σ i) → R (.int .i64 (k : Nat)) s) : AC Tryz.prog w0 n_p_spec_l1Rd_pick [ptr b, .int .i64 (n : Nat)] σ R := by
  obtain ⟨u, q, ety, cap, bs, h1, h2, h3, h4, h5⟩ := h
  refine ac_p_spec_l1Rd_pick ?_
  unfold vc_p_spec_l1Rd_pick
  refine ⟨_, rfl, field_load (A := []) (C := []) (c := [u, .int .i64 (q : Nat)]) h1 h2 rfl rfl rfl fun g hg => ?_⟩
  rw [hg, pBin_add (by omega)]
  refine ⟨_, rfl, field_store (A := []) (C := []) (c := [u, .int .i64 (q : Nat)]) h2 rfl rfl (by show 1 < 2; omega) rfl ?_⟩
  simp only [List.nil_append, List.append_nil, List.set_cons_zero, List.set_cons_succ]
  generalize hs4 : σ.put b ⟨ety, [u, .int .i64 ((q : Int) + 1)], cap, (0, 0)⟩ = s4
  have hr4 : s4 b = some ⟨ety, [u, .int .i64 ((q : Int) + 1)], cap, (0, 0)⟩ := by rw [← hs4]; exact put_at
  have hd4 : s4.del b = σ.del b := by
    rw [← hs4]; funext i
    by_cases e : i = b
    · subst e; simp [Vw.del]
    · simp [Vw.del, Vw.put, e]
  have ho4 : ∀ i, i ≠ b → s4 i = σ i := fun i hi => by rw [← hs4, put_ne hi]
  have hu4 : RSl 1 RU8 (Av.get w0 s4) u bs := h4.mono (Keeps.le fun i r h => by cases h) fun _ _ h => h
  have hRD : RD w0 s4 b (p + 1) := ⟨u, q + 1, ety, cap, bs, h1, by rw [hr4]; rfl, by omega, h4, h5⟩
  have out : ∀ (k : Nat), k < n → R (.int .i64 (k : Nat)) s4 := fun k hk => hR k s4 hk hRD hd4 ho4
  clear hR hs4
  have ld0 : ∀ {K : (Nat → Value) → Prop}, (∀ g : Nat → Value, g 0 = u → K g) → pNil (ptr b) (pField 0 (ptr b) fun v => pLoad w0 1 v s4 K) := fun hK => ⟨_, rfl, field_load (A := []) (C := []) (c := [u, .int .i64 ((q : Int) + 1)]) h1 hr4 rfl rfl rfl hK⟩
  have ld1 : ∀ {K : (Nat → Value) → Prop}, (∀ g : Nat → Value, g 0 = .int .i64 ((q : Int) + 1) → K g) → pNil (ptr b) (pField 1 (ptr b) fun v => pLoad w0 1 v s4 K) := fun hK => ⟨_, rfl, field_load (A := []) (C := []) (c := [u, .int .i64 ((q : Int) + 1)]) h1 hr4 rfl rfl rfl hK⟩
  rw [pBin_lt, pIf_d]
  refine ⟨fun h => by omega, fun _ => ?_⟩
  refine ld0 fun g hg => ?_
  rw [hg, hu4.len, pBin_eq, pIf_d]
  refine ⟨fun _ => out 0 (by omega), fun hne => ?_⟩
  have hpos : 0 < bs.length := by omega
  refine ld1 fun g hg => ?_
  rw [hg, pBin_sub (by omega), show (q : Int) + 1 - 1 = (q : Nat) by omega]
  refine ld0 fun g hg => ?_
  rw [hg, hu4.len, pBin_lt, pIf_d]
  have byte : ∀ (j : Nat) (x : Nat), bs[j]? = some x → x ≤ 255 := fun j x hj => by
    obtain ⟨_, _, _, _, hh⟩ := h4
    obtain ⟨_, _, _, _, _, hx⟩ := hh j x hj
    exact hx.2
  refine ⟨fun hlt => ?_, fun hge => ?_⟩
  · refine ld0 fun g hg => ?_
    rw [hg]
    have hx := List.getElem?_eq_getElem (show q < bs.length by omega)
    generalize bs[q]'(by omega) = x at hx
    have hxb := byte q x hx
    refine hu4.at hx fun g hg => ?_
    obtain ⟨hg, _⟩ := hg
    simp only [expl, List.cons.injEq, and_true] at hg
    rw [hg, pConv_i64 (by omega), pBin_rem (by omega)]
    have : ((x : Nat) : Int) % ((n : Nat) : Int) = ((x % n : Nat) : Int) := by omega
    rw [this]
    exact out _ (Nat.mod_lt _ (by omega))
  · refine ld0 fun g hg => ?_
    rw [hg]
    refine ld0 fun g hg => ?_
    rw [hg, hu4.len, pBin_rem (by omega), show ((q : Nat) : Int) % ((bs.length : Nat) : Int) = ((q % bs.length : Nat) : Int) by omega]
    have hx := List.getElem?_eq_getElem (Nat.mod_lt q hpos)
    generalize bs[q % bs.length]'(Nat.mod_lt q hpos) = x at hx
    have hxb := byte _ x hx
    refine hu4.at hx fun g hg => ?_
    obtain ⟨hg, _⟩ := hg
    simp only [expl, List.cons.injEq, and_true] at hg
    rw [hg, pConv_i64 (by omega), pBin_mul (by omega)]
    refine ld0 fun g hg => ?_
    rw [hg, pBin_mul (by omega), pBin_add (by omega)]
    refine ld0 fun g hg => ?_
    have hm7 : (((q : Nat) : Int) * 7 + 3) % ((bs.length : Nat) : Int) = (((q * 7 + 3) % bs.length : Nat) : Int) := by
      have := Int.natCast_emod (q * 7 + 3) bs.length
      rw [show (((q * 7 + 3 : Nat)) : Int) = (q : Int) * 7 + 3 by omega] at this
      exact this.symm
    rw [hg, hu4.len, pBin_rem (by omega), hm7]
    have hy := List.getElem?_eq_getElem (Nat.mod_lt (q * 7 + 3) hpos)
    generalize bs[(q * 7 + 3) % bs.length]'(Nat.mod_lt (q * 7 + 3) hpos) = y at hy
    have hyb := byte _ y hy
    refine hu4.at hy fun g hg => ?_
    obtain ⟨hg, _⟩ := hg
    simp only [expl, List.cons.injEq, and_true] at hg
    rw [hg, pConv_i64 (by omega), pBin_mul (by omega), pBin_add (by omega), pBin_mul (by omega), pBin_add (by omega)]
    refine ld0 fun g hg => ?_
    have hq0 : ((q : Nat) : Int) / ((bs.length : Nat) : Int) = ((q / bs.length : Nat) : Int) := by omega
    have hq1 : q / bs.length ≤ q := Nat.div_le_self _ _
    rw [hg, hu4.len, pBin_quo (by omega), hq0]
    clear hq0
    generalize q / bs.length = z at hq1 ⊢
    rw [pBin_mul (by omega), pBin_add (by omega), pBin_quo (by omega)]
    refine pBin_xor (by omega) (by omega) fun c hc => ?_
    rw [pBin_rem (by omega)]
    obtain ⟨m, rfl⟩ : ∃ m : Nat, c = m := ⟨c.toNat, by omega⟩
    rw [show ((m : Nat) : Int) % ((n : Nat) : Int) = ((m % n : Nat) : Int) by omega]
    exact out _ (Nat.mod_lt _ (by omega))

theorem spec_of {b p : Nat} {w : Value} {xs : List ByteArray} (h : RD w0 σ b p) (hp : p ≤ 100000000) (hw : RSl 1 RS (Av.get w0 (σ.del b)) w xs) (hx : 0 < xs.length ∧ xs.length ≤ 1000000000) {R : Value → Vw → Prop} (hR : ∀ (x : ByteArray) s, x ∈ xs → RD w0 s b (p + 1) → s.del b = σ.del b → (∀ i, i ≠ b → s i = σ i) → R (.string x) s) : AC Tryz.prog w0 n_p_spec_l1Rd_of [ptr b, w] σ R := by
  refine ac_p_spec_l1Rd_of ?_
  unfold vc_p_spec_l1Rd_of
  rw [hw.len]
  refine spec_pick h hp hx fun k s hk hrd hd ho => ?_
  have hw' : RSl 1 RS (Av.get w0 s) w xs := hw.mono (by rw [← hd]; exact del_le) fun _ _ h => h
  have hkx := List.getElem?_eq_getElem hk
  refine RSl.at1 hw' hkx fun g hg _ => ?_
  rw [hg]
  exact hR _ s (List.mem_of_getElem? hkx) hrd hd ho
end
end Go.Proofs.YtlfnfpdipghdiaaGreatDoor

/- Names, bytes and paths that are drawn. -/
set_option linter.unusedVariables false
set_option linter.unusedSimpArgs false
namespace Go.Proofs.YtlfnfpdipghdiaaGreatDoor
open Go Go.Av Go.RowKit

theorem del_put_ne {σ : Vw} {b n : Nat} {r : Row} (h : n ≠ b) : (σ.put n r).del b = (σ.del b).put n r := by
  funext i
  by_cases e : i = b
  · subst e
    have : ¬ i = n := fun e => h e.symm
    simp [Vw.del, Vw.put, this]
  · simp [Vw.del, Vw.put, e]
theorem keeps_out {σ s : Vw} {b : Nat} (k : Keeps (σ.del b) (s.del b)) {i : Nat} {r : Row} (hi : i ≠ b) (h : σ i = some r) : s i = some r := by
  have := k i r (by rw [del_ne hi]; exact h)
  rw [del_ne hi] at this; exact this
section
variable {w0 : World} {σ : Vw}

theorem RD.at {b p : Nat} (h : RD w0 σ b p) : σ b ≠ none := by obtain ⟨u, q, ety, cap, bs, h1, h2, _⟩ := h; rw [h2]; simp
/-- A new row beside the reader. -/
theorem RD.new {b p n : Nat} {r : Row} (h : RD w0 σ b p) (hn : σ n = none) : n ≠ b ∧ RD w0 (σ.put n r) b p ∧ Keeps (σ.del b) ((σ.put n r).del b) := by
  have hne : n ≠ b := fun e => h.at (e ▸ hn)
  have k : Keeps (σ.del b) ((σ.put n r).del b) := by rw [del_put_ne hne]; exact Keeps.put (by rw [del_ne hne]; exact hn)
  exact ⟨hne, h.keep (put_ne fun e => hne e.symm), k⟩
theorem row_strs {s : Vw} {b e c k : Nat} {z : Nat × Nat} {xs : List ByteArray} (hb : w0.heap.size ≤ b) (hr : s b = some ⟨e, xs.map Value.string, c, z⟩) (hx : ∀ x, x ∈ xs → x.size ≤ 9223372036854775807) (hk : xs.length ≤ k ∧ k ≤ 9223372036854775807) : RSl 1 RS (Av.get w0 s) (.slice (some ⟨b, 0, none⟩) xs.length k) xs := by
  refine ⟨some ⟨b, 0, none⟩, k, rfl, hk, fun j x hj => ⟨_, [.string x], rfl, rfl, fun i hi => ?_, rfl, hx x (List.mem_of_getElem? hj)⟩⟩
  have e : i = 0 := by omega
  subst e
  rw [addr_add, get_row hb hr]
  simp only [Nat.mul_one, Nat.add_zero, Nat.zero_add, List.getElem?_map, hj, Option.map_some]
  rfl
/-- One of some texts. -/
theorem of_lit {b p k : Nat} {xs : List ByteArray} (h : RD w0 σ b p) (hp : p ≤ 100000000) (hx : 0 < xs.length ∧ xs.length ≤ 1000) (hsz : ∀ x, x ∈ xs → x.size ≤ 1000000) (hk : xs.length = k) {cells : List Value} (hc : cells = xs.map Value.string) {R : Value → Vw → Prop} (hR : ∀ (x : ByteArray) s, x ∈ xs → RD w0 s b (p + 1) → Keeps (σ.del b) (s.del b) → R (.string x) s) :
    pNew w0 t_string cells σ (fun n0 s1 => AC Tryz.prog w0 n_p_spec_l1Rd_of [ptr b, .slice (some (Addr.mk n0 0 none)) k k] s1 R) := by
  intro n h1 h2
  subst hc hk
  obtain ⟨hne, hrd, kk⟩ := h.new (r := ⟨t_string, xs.map Value.string, (xs.map Value.string).length, (0, 0)⟩) h2
  refine spec_of hrd hp (row_strs h1 (by rw [del_ne hne]; exact put_at) (fun x hx => by have := hsz x hx; omega) (by omega)) (by omega) fun x s hx hrd' hd _ => hR x s hx hrd' (by rw [hd]; exact kk)

theorem spec_l1Many {s0 : ByteArray} {n : Nat} (hs : s0.size * n ≤ 1000000) (hs0 : s0.size ≤ 1000000) (hn : n ≤ 1000000) {R : Value → Vw → Prop} (hR : ∀ t : ByteArray, t.size ≤ s0.size * n → R (.string t) σ) : AC Tryz.prog w0 n_spec_l1Many [.string s0, .int .i64 (n : Nat)] σ R := by
  refine ac_spec_l1Many ?_
  unfold vc_spec_l1Many
  refine loop_rule (m := n) (fun m l st => ∃ (s out : ByteArray) (k : Nat), st = σ ∧ k ≤ m ∧ k ≤ n ∧ out.size + s.size * k ≤ s0.size * n ∧ l = [.string s, .int .i64 (k : Nat), .string out]) ?_ ⟨s0, ⟨#[]⟩, n, rfl, Nat.le_refl _, Nat.le_refl _, by show 0 + _ ≤ _; omega, rfl⟩
  rintro m l st L ⟨s, out, k, rfl, hk, hkn, hsz, rfl⟩ hL
  simp only [vget, List.getD_cons_zero, List.getD_cons_succ]
  rw [pBin_gt, pIf_d]
  refine ⟨fun hpos => ?_, fun _ => hR out (by omega)⟩
  have h1 : s.size ≤ s.size * k := Nat.le_mul_of_pos_right _ (by omega)
  have h2 : s.size * k = s.size * (k % 2) + 2 * (s.size * (k / 2)) := by
    have : k = k % 2 + 2 * (k / 2) := by omega
    conv => lhs; rw [this, Nat.mul_add]
    rw [Nat.mul_left_comm]
  have h3 : (s ++ s).size * (k / 2) = 2 * (s.size * (k / 2)) := by rw [ByteArray.size_append, ← Nat.two_mul, Nat.mul_assoc]
  have hq : ((k : Nat) : Int) / 2 = ((k / 2 : Nat) : Int) := by omega
  rw [pBin_rem (by omega), pBin_eq, pIf_d]
  refine ⟨fun hodd => ?_, fun heven => ?_⟩
  · have hk1 : k % 2 = 1 := by omega
    rw [hk1, Nat.mul_one] at h2
    rw [pBin_cat (by omega), pBin_cat (by omega), pBin_quo (by omega), hq]
    refine hL _ _ (m - 1) (by omega) ⟨s ++ s, out ++ s, k / 2, rfl, by omega, by omega, ?_, rfl⟩
    rw [h3, ByteArray.size_append]; omega
  · have hk1 : k % 2 = 0 := by omega
    rw [hk1, Nat.mul_zero] at h2
    rw [pBin_cat (by omega), pBin_quo (by omega), hq]
    refine hL _ _ (m - 1) (by omega) ⟨s ++ s, out, k / 2, rfl, by omega, by omega, ?_, rfl⟩
    rw [h3]; omega

theorem spec_l1Open {u : Value} {bs : List Nat} (h : RSl 1 RU8 (Av.get w0 (fun _ => none)) u bs) {R : Value → Vw → Prop} (hR : ∀ b s, RD w0 s b 0 → s.del b = σ → σ b = none → R (ptr b) s) : AC Tryz.prog w0 n_spec_l1Open [u] σ R := by
  refine ac_spec_l1Open ?_
  unfold vc_spec_l1Open
  have go : ∀ (v : Value) (cs : List Nat) (ety : Nat), RSl 1 RU8 (Av.get w0 (fun _ => none)) v cs → cs.length ≤ 2000 → pVal false 1 v (pVal true 2 (.agg (⟨[v, .int .i64 0]⟩)) (pNew w0 ety [v, .int .i64 0] σ (fun n3 s4 => R (.pointer (some (Addr.mk n3 0 none))) s4))) := fun v cs ety hv hl => by
    rw [pVal1 hv.one, pVal_2 hv.one rfl]
    intro n h1 h2
    have hd : (σ.put n ⟨ety, [v, .int .i64 0], 2, (0, 0)⟩).del n = σ := del_put h2
    exact hR n _ ⟨v, 0, ety, 2, cs, h1, put_at, Nat.le_refl _, hv, hl⟩ hd h2
  rw [h.len, pBin_gt, pIf_d]
  refine ⟨fun hgt => ?_, fun hle => go u bs _ h (by omega)⟩
  refine RSl.take (σ := fun _ => none) (j := 2000) h (by omega) fun v' hv' => go v' _ _ hv' (by rw [List.length_take]; omega)
end
end Go.Proofs.YtlfnfpdipghdiaaGreatDoor

/- What a draw keeps beside its reader; stores into lists of our own. -/
set_option linter.unusedVariables false
set_option linter.unusedSimpArgs false
set_option maxRecDepth 20000
namespace Go.Proofs.YtlfnfpdipghdiaaGreatDoor
open Go Go.Av Go.RowKit

section
variable {w0 : World} {σ : Vw}

theorem step_but {s s' : Vw} {b q : Nat} {F : List Nat} (hrd : RD w0 s b q) (k : KeepsBut F s s') (hbF : b ∉ F) (K : Keeps (σ.del b) (s.del b)) (hF : ∀ i, i ∈ F → (σ.del b) i = none) : RD w0 s' b q ∧ Keeps (σ.del b) (s'.del b) := by
  have hb : s' b = s b := by
    cases hs : s b with
    | none => exact absurd hs hrd.at
    | some r => exact k b r hs hbF
  refine ⟨hrd.keep hb, fun i r hi => ?_⟩
  obtain ⟨e1, e2⟩ := del_some hi
  have e3 := K i r hi
  rw [del_ne e1] at e3 ⊢
  exact k i r e3 fun e => by rw [hF i e] at hi; cases hi


/-- A list of our own stands beside what a draw does. -/
theorem acc_thru {α : Type} {ety n b : Nat} {Rel : (Addr → Option Value) → List Value → α → Prop} {O : Vw → List Nat → List Value → α → Prop} (ok : OOk w0 n Rel O) {s s' : Vw} {F : List Nat} {v : Value} {xs : List α} (o : OAcc w0 ety n O s F v xs) (hb : b ∉ F) (k : Keeps (s.del b) (s'.del b)) : OAcc w0 ety n O s' F v xs :=
  o.frame ok fun i hi => by
    have hd := o.dom ok i hi
    cases hs : s i with
    | none => exact absurd hs hd.2
    | some r => exact keeps_out k (fun (e : i = b) => hb (e ▸ hi)) hs
theorem osl_thru {α : Type} {n b : Nat} {Rel : (Addr → Option Value) → List Value → α → Prop} {O : Vw → List Nat → List Value → α → Prop} (ok : OOk w0 n Rel O) {s s' : Vw} {F : List Nat} {v : Value} {xs : List α} (o : OSl w0 n O s F v xs) (hb : b ∉ F) (k : Keeps (s.del b) (s'.del b)) : OSl w0 n O s' F v xs :=
  o.frame ok fun i hi => by
    have hd := o.dom ok i hi
    cases hs : s i with
    | none => exact absurd hs hd.2
    | some r => exact keeps_out k (fun (e : i = b) => hb (e ▸ hi)) hs
theorem osl_del {α : Type} {n b : Nat} {Rel : (Addr → Option Value) → List Value → α → Prop} {O : Vw → List Nat → List Value → α → Prop} (ok : OOk w0 n Rel O) {s : Vw} {F : List Nat} {v : Value} {xs : List α} (o : OSl w0 n O s F v xs) (hb : b ∉ F) : RSl n Rel (Av.get w0 (s.del b)) v xs :=
  (o.frame (σ' := s.del b) ok fun i hi => del_ne fun (e : i = b) => hb (e ▸ hi)).rel ok
end
end Go.Proofs.YtlfnfpdipghdiaaGreatDoor

/- Disks that are drawn: texts, groups, steps, a disk that was played. -/
set_option linter.unusedVariables false
set_option linter.unusedSimpArgs false
set_option maxRecDepth 20000
namespace Go.Proofs.YtlfnfpdipghdiaaGreatDoor
open Go Go.Av Go.RowKit

section
variable {w0 : World} {σ : Vw}

/-- A text that is drawn. -/
abbrev OutTx (w0 : World) (σ : Vw) (b p N : Nat) (R : Value → Vw → Prop) : Prop := ∀ (t : ByteArray) s, RD w0 s b p → Keeps (σ.del b) (s.del b) → t.size ≤ N → R (.string t) s

theorem pick_keeps {s s' : Vw} {b : Nat} (h : s'.del b = s.del b) : Keeps (s.del b) (s'.del b) := by rw [h]; exact Keeps.refl _

theorem spec_l24Text {b p : Nat} (h : RD w0 σ b p) (hp : p ≤ 1000000) {R : Value → Vw → Prop} (hR : OutTx w0 σ b (p + 3) 6000 R) : AC Tryz.prog w0 n_spec_l24Text [ptr b] σ R := by
  refine ac_spec_l24Text ?_
  unfold vc_spec_l24Text
  have s1 : ∀ b, (⟨#[b]⟩ : ByteArray).size = 1 := fun _ => rfl
  refine spec_pick (n := 12) h (by omega) (by omega) fun j s hj hrd1 hd1 _ => ?_
  have k1 := pick_keeps hd1
  rw [pBin_eq, pIf_d]
  refine ⟨fun _ => ?_, fun _ => ?_⟩
  · refine spec_pick (n := 2) hrd1 (by omega) (by omega) fun j2 s2 hj2 hrd2 hd2 _ => ?_
    rw [pBin_sub (by omega)]
    refine spec_pick (n := 2) hrd2 (by omega) (by omega) fun j3 s3 hj3 hrd3 hd3 _ => ?_
    rw [pBin_add (by omega), show (5760 : Int) - (j2 : Nat) + (j3 : Nat) = ((5760 - j2 + j3 : Nat) : Int) by omega]
    refine spec_l1Many (by rw [s1]; omega) (by rw [s1]; omega) (by omega) fun t ht => ?_
    rw [s1] at ht
    exact hR t s3 (hrd3.more (by omega)) ((k1.trans (pick_keeps hd2)).trans (pick_keeps hd3)) (by omega)
  rw [pBin_eq, pIf_d]
  refine ⟨fun _ => ?_, fun _ => ?_⟩
  · refine spec_pick (n := 20) hrd1 (by omega) (by omega) fun j2 s2 hj2 hrd2 hd2 _ => ?_
    have e8 : (⟨#[72, 32, 49, 32, 48, 32, 51, 32]⟩ : ByteArray).size = 8 := rfl
    have e5 : (⟨#[67, 32, 57, 32, 48]⟩ : ByteArray).size = 5 := rfl
    refine spec_l1Many (by rw [e8]; omega) (by rw [e8]; omega) (by omega) fun t ht => ?_
    rw [e8] at ht
    rw [pBin_cat (by rw [e5]; omega)]
    exact hR _ s2 (hrd2.more (by omega)) (k1.trans (pick_keeps hd2)) (by rw [ByteArray.size_append, e5]; omega)
  rw [pBin_eq, pIf_d]
  refine ⟨fun _ => ?_, fun _ => ?_⟩
  · refine spec_pick (n := 4) hrd1 (by omega) (by omega) fun j2 s2 hj2 hrd2 hd2 _ => ?_
    rw [pBin_mul (by omega), show (64 : Int) * (j2 : Nat) = ((64 * j2 : Nat) : Int) by omega]
    refine spec_l1Many (by rw [s1]; omega) (by rw [s1]; omega) (by omega) fun t ht => ?_
    rw [s1] at ht
    exact hR t s2 (hrd2.more (by omega)) (k1.trans (pick_keeps hd2)) (by omega)
  have hpv : ∀ (x : ByteArray) (A : Prop), pVal false 1 (.string x) A ↔ A := fun x A => pVal1 rfl
  simp only [hpv]
  have hsz : ∀ x, x ∈ [(⟨#[]⟩ : ByteArray), ⟨#[97]⟩, ⟨#[104, 101, 108, 108, 111, 32]⟩, ⟨#[67, 32, 51, 32, 49]⟩, ⟨#[72, 32, 50, 32, 48, 32, 49]⟩, ⟨#[0]⟩] → x.size ≤ 7 := by
    intro x hx
    simp at hx
    rcases hx with rfl | rfl | rfl | rfl | rfl | rfl <;> decide
  refine of_lit (xs := [(⟨#[]⟩ : ByteArray), ⟨#[97]⟩, ⟨#[104, 101, 108, 108, 111, 32]⟩, ⟨#[67, 32, 51, 32, 49]⟩, ⟨#[72, 32, 50, 32, 48, 32, 49]⟩, ⟨#[0]⟩]) hrd1 (by omega) (by simp) (fun x hx => by have := hsz x hx; omega) rfl rfl fun x s2 hx hrd2 k2 => ?_
  have hxs := hsz x hx
  refine spec_pick (n := 30) hrd2 (by omega) (by omega) fun j3 s3 hj3 hrd3 hd3 _ => ?_
  have hmul : x.size * j3 ≤ 7 * 30 := Nat.mul_le_mul hxs (by omega)
  refine spec_l1Many (by omega) (by omega) (by omega) fun t ht => ?_
  exact hR t s3 (hrd3.more (by omega)) ((k1.trans k2).trans (pick_keeps hd3)) (by omega)

theorem spec_l24Group {b p : Nat} (h : RD w0 σ b p) (hp : p ≤ 1000000) {R : Value → Vw → Prop} (hR : OutTx w0 σ b (p + 3) 700 R) : AC Tryz.prog w0 n_spec_l24Group [ptr b] σ R := by
  refine ac_spec_l24Group ?_
  unfold vc_spec_l24Group
  have s1 : ∀ b, (⟨#[b]⟩ : ByteArray).size = 1 := fun _ => rfl
  refine spec_pick (n := 10) h (by omega) (by omega) fun j s hj hrd1 hd1 _ => ?_
  have k1 := pick_keeps hd1
  rw [pBin_eq, pIf_d]
  refine ⟨fun _ => ?_, fun _ => ?_⟩
  · refine spec_pick (n := 2) hrd1 (by omega) (by omega) fun j2 s2 hj2 hrd2 hd2 _ => ?_
    rw [pBin_sub (by omega)]
    refine spec_pick (n := 3) hrd2 (by omega) (by omega) fun j3 s3 hj3 hrd3 hd3 _ => ?_
    rw [pBin_add (by omega), show (600 : Int) - (j2 : Nat) + (j3 : Nat) = ((600 - j2 + j3 : Nat) : Int) by omega]
    refine spec_l1Many (by rw [s1]; omega) (by rw [s1]; omega) (by omega) fun t ht => ?_
    rw [s1] at ht
    exact hR t s3 (hrd3.more (by omega)) ((k1.trans (pick_keeps hd2)).trans (pick_keeps hd3)) (by omega)
  rw [pBin_eq, pIf_d]
  refine ⟨fun _ => ?_, fun _ => ?_⟩
  · refine spec_pick (n := 30) hrd1 (by omega) (by omega) fun j2 s2 hj2 hrd2 hd2 _ => ?_
    have e7 : (⟨#[72, 32, 49, 32, 49, 32, 48]⟩ : ByteArray).size = 7 := rfl
    refine spec_l1Many (by rw [e7]; omega) (by rw [e7]; omega) (by omega) fun t ht => ?_
    rw [e7] at ht
    exact hR _ s2 (hrd2.more (by omega)) (k1.trans (pick_keeps hd2)) (by omega)
  rw [pBin_eq, pIf_d]
  refine ⟨fun _ => ?_, fun _ => ?_⟩
  · refine spec_pick (n := 4) hrd1 (by omega) (by omega) fun j2 s2 hj2 hrd2 hd2 _ => ?_
    rw [pBin_mul (by omega)]
    refine spec_pick (n := 2) hrd2 (by omega) (by omega) fun j3 s3 hj3 hrd3 hd3 _ => ?_
    rw [pBin_add (by omega), show (63 : Int) * (j2 : Nat) + (j3 : Nat) = ((63 * j2 + j3 : Nat) : Int) by omega]
    refine spec_l1Many (by rw [s1]; omega) (by rw [s1]; omega) (by omega) fun t ht => ?_
    rw [s1] at ht
    exact hR t s3 (hrd3.more (by omega)) ((k1.trans (pick_keeps hd2)).trans (pick_keeps hd3)) (by omega)
  have hpv : ∀ (x : ByteArray) (A : Prop), pVal false 1 (.string x) A ↔ A := fun x A => pVal1 rfl
  simp only [hpv]
  have hsz : ∀ x, x ∈ [(⟨#[]⟩ : ByteArray), ⟨#[98]⟩, ⟨#[112, 117, 116, 32, 120, 32]⟩, ⟨#[72, 32, 50, 32, 49, 32, 48]⟩] → x.size ≤ 7 := by
    intro x hx
    simp at hx
    rcases hx with rfl | rfl | rfl | rfl <;> decide
  refine of_lit (xs := [(⟨#[]⟩ : ByteArray), ⟨#[98]⟩, ⟨#[112, 117, 116, 32, 120, 32]⟩, ⟨#[72, 32, 50, 32, 49, 32, 48]⟩]) hrd1 (by omega) (by simp) (fun x hx => by have := hsz x hx; omega) rfl rfl fun x s2 hx hrd2 k2 => ?_
  have hxs := hsz x hx
  refine spec_pick (n := 16) hrd2 (by omega) (by omega) fun j3 s3 hj3 hrd3 hd3 _ => ?_
  have hmul : x.size * j3 ≤ 7 * 16 := Nat.mul_le_mul hxs (by omega)
  refine spec_l1Many (by omega) (by omega) (by omega) fun t ht => ?_
  exact hR t s3 (hrd3.more (by omega)) ((k1.trans k2).trans (pick_keeps hd3)) (by omega)

theorem spec_l24Blank {R : Value → Vw → Prop} (hR : ∀ v F σ', Keeps σ σ' → OStrs w0 σ' F v blankB → (∀ i, i ∈ F → σ i = none) → R (.agg ⟨[v]⟩) σ') : AC Tryz.prog w0 n_spec_l24Blank [] σ R := by
  refine ac_spec_l24Blank ?_
  unfold vc_spec_l24Blank
  rw [pVal_1 rfl]
  refine loop_rule (m := 194) (fun m l s => ∃ (j : Nat) (v : Value) (F : List Nat), m + j = 194 ∧ Keeps σ s ∧ (∀ i, i ∈ F → σ i = none) ∧ OAcc w0 t_string 1 OStr s F v (List.replicate j ⟨#[]⟩) ∧ l = [.int .i64 (j : Nat), .slice none 0 0, v]) ?_
    ⟨0, _, [], rfl, Keeps.refl _, by simp, OAcc.nil, rfl⟩
  rintro m l s L ⟨j, v, F, hm, ks, hF, ho, rfl⟩ hL
  simp only [vget, List.getD_cons_zero, List.getD_cons_succ]
  rw [pBin_lt, pIf_d]
  refine ⟨fun hj => ?_, fun hj => ?_⟩
  · refine str_app ho (Nat.zero_le _) (by simp; omega) fun v' F' s' k' o' f' => ?_
    rw [pVal1 (OSl.one' o'.osl), pBin_add (by omega)]
    refine hL _ _ (m - 1) (by omega) ⟨j + 1, v', F', by omega, k'.old ks hF, fresh_in ks hF f', ?_, rfl⟩
    rw [List.replicate_succ']; exact o'
  · have e : j = 194 := by omega
    subst e
    show pVal true 1 (.agg ⟨[v]⟩) (R (.agg ⟨[v]⟩) s)
    rw [pVal_1 (OSl.one' ho.osl)]
    exact hR v F s ks ho.osl hF

/-- What a draw of a disk gives: one with a store, or any. -/
abbrev OutDk (w0 : World) (σ : Vw) (b p : Nat) (R : Value → Vw → Prop) : Prop := ∀ v (B : List ByteArray) (x : Sto) s, RD w0 s b p → Keeps (σ.del b) (s.del b) → RSl 1 RS (Av.get w0 (s.del b)) v B → openP B = some x → R (.agg ⟨[v]⟩) s
abbrev OutDa (w0 : World) (σ : Vw) (b p : Nat) (R : Value → Vw → Prop) : Prop := ∀ v (B : List ByteArray) s, RD w0 s b p → Keeps (σ.del b) (s.del b) → RSl 1 RS (Av.get w0 (s.del b)) v B → B.length ≤ 194 → R (.agg ⟨[v]⟩) s

theorem spec_l24New {b p : Nat} (h : RD w0 σ b p) (hp : p ≤ 1000000) {R : Value → Vw → Prop} (hR : OutDk w0 σ b (p + 1) R) : AC Tryz.prog w0 n_spec_l24New [ptr b] σ R := by
  refine ac_spec_l24New ?_
  unfold vc_spec_l24New
  have s1 : ∀ b, (⟨#[b]⟩ : ByteArray).size = 1 := fun _ => rfl
  refine spec_pick (n := 200) h (by omega) (by omega) fun j s1' hj hrd1 hd1 _ => ?_
  refine spec_l1Many (by rw [s1]; omega) (by rw [s1]; omega) (by omega) fun t ht => ?_
  rw [s1] at ht
  have hts : t.size ≤ 5760 := by omega
  refine RD.hide hrd1 (spec_StoreNew (R := fun w s => ∃ v, w = .tuple ⟨[v, .bool (newR t).2]⟩ ∧ Keeps (s1'.del b) s ∧ RSl 2 RRaw (Av.get w0 s) v (newR t).1) fun v F s k o f => ⟨v, rfl, k, o.rel (ok_raw w0)⟩) ?_ fun v s ⟨_, _, k, _⟩ => k
  rintro _ s2 k2 hrd2 ⟨v2, rfl, _, r2⟩
  rw [pExtract_s rfl, pExtract_s rfl]
  refine RD.hide hrd2 (spec_l24Blank (R := fun w s => ∃ v, w = .agg ⟨[v]⟩ ∧ Keeps (s2.del b) s ∧ RSl 1 RS (Av.get w0 s) v blankB) fun v F s k o f => ⟨v, rfl, k, o.rel (ok_str w0)⟩) ?_ fun v s ⟨_, _, k, _⟩ => k
  rintro _ s3 k3 hrd3 ⟨v3, rfl, _, r3⟩
  have r23 := r2.mono k3.le fun _ _ h => h
  rw [r23.len]
  refine RD.hide hrd3 (spec_DiskWrite r3 r23 (R := fun w s => ∃ v, w = .agg ⟨[v]⟩ ∧ Keeps (s3.del b) s ∧ RSl 1 RS (Av.get w0 s) v (writeD blankB (newR t).1 ((newR t).1.length : Nat))) fun v F s k o f => ⟨v, rfl, k, o.rel (ok_str w0)⟩) ?_ fun v s ⟨_, _, k, _⟩ => k
  rintro _ s4 k4 hrd4 ⟨v4, rfl, _, r4⟩
  rw [writeD_all blank_ok] at r4
  have e : (newR t).1 = savedR 1 t := by unfold newR; rw [if_pos hts]
  rw [e] at r4
  rw [pVal_1 r4.one]
  simp only [cellOf_agg, List.getD_cons_zero]
  exact hR v4 _ _ s4 hrd4 ((((pick_keeps hd1).trans k2).trans k3).trans k4) r4 (new_open hts)

/-- Steps that are drawn. -/
abbrev OutS (w0 : World) (σ : Vw) (b p : Nat) (R : Value → Vw → Prop) : Prop := ∀ v (xs : List Stp) s, RD w0 s b p → Keeps (σ.del b) (s.del b) → RSl 3 RStp (Av.get w0 (s.del b)) v xs → xs.length ≤ 20 → R v s

set_option maxHeartbeats 2000000 in
theorem spec_l24Steps {b p most : Nat} (h : RD w0 σ b p) (hp : p ≤ 900000) (hm : 0 < most ∧ most ≤ 20) {R : Value → Vw → Prop} (hR : OutS w0 σ b (p + 300) R) : AC Tryz.prog w0 n_spec_l24Steps [ptr b, .int .i64 (most : Nat)] σ R := by
  refine ac_spec_l24Steps ?_
  unfold vc_spec_l24Steps
  intro n0 g1 g2
  obtain ⟨hne0, hrd0, k0⟩ := h.new (r := ⟨t_impl_Step, [], 0, (0, 0)⟩) g2
  refine spec_pick (n := most) hrd0 (by omega) (by omega) fun n s1 hn hrd1 hd1 ho1 => ?_
  have hσn : (σ.del b) n0 = none := by rw [del_ne hne0]; exact g2
  have o1 := (OAcc.new (w0 := w0) (σ := σ) (ety := t_impl_Step) (n := 3) (O := OStp) g1).frame (σ' := s1) (ok_stp w0) fun i hi => ho1 i (by rw [List.mem_singleton.1 hi]; exact hne0)
  refine loop_rule (m := n) (fun m l s => ∃ (v : Value) (F : List Nat) (xs : List Stp), m ≤ 19 ∧ m + xs.length ≤ 20 ∧ RD w0 s b (p + 300 - 13 * m) ∧ Keeps (σ.del b) (s.del b) ∧ (∀ i, i ∈ F → (σ.del b) i = none) ∧ b ∉ F ∧ OAcc w0 t_impl_Step 3 OStp s F v xs ∧ l = [ptr b, v, .int .i64 (m : Nat)]) ?_
    ⟨_, [n0], [], by omega, by simp; omega, hrd1.more (by omega), k0.trans (pick_keeps hd1), (fun i hi => by rw [List.mem_singleton.1 hi]; exact hσn), (fun hb => hne0 (List.mem_singleton.1 hb).symm), o1, rfl⟩
  clear hrd0 hrd1 o1
  rintro m l s L ⟨v, F, xs, hm19, hml, hrd, ks, hF, hbF, ho, rfl⟩ hL
  simp only [vget, List.getD_cons_zero, List.getD_cons_succ]
  rw [pBin_gt, pIf_d]
  refine ⟨fun hpos => ?_, fun hz => ?_⟩
  · -- a step is put at the end
    have push : ∀ (sv : Bool) (t : ByteArray) (c : Int) (s' : Vw) (q : Nat), RD w0 s' b q → q ≤ p + 300 - 13 * (m - 1) → Keeps (s.del b) (s'.del b) → t.size ≤ 6000 → (-1 ≤ c ∧ c ≤ 1000) →
        pVal true 3 (.agg (⟨[.bool sv, .string t, .int .i64 c]⟩)) ((allOne [.bool sv, .string t, .int .i64 c]) ∧ (pAppend w0 t_impl_Step 3 32 v 1 [.bool sv, .string t, .int .i64 c] s' (fun v28 s29 => pBin Tryz.prog 3 .sub (.int .i64 (m : Nat)) (.int .i64 1) (fun v30 => L [ptr b, v28, v30] s29)))) := by
      intro sv t c s' q t1 t2 t3 t4 t5
      rw [pVal_3 rfl rfl rfl]
      have ho' := acc_thru (ok_stp w0) ho hbF t3
      refine ho'.one (ok_stp w0) (f := []) (y := (sv, t, c)) ⟨rfl, rfl, by simp only; omega, by unfold rng'; simp only; omega⟩ (by simp) (by omega) (by omega) fun v' F' s2 k2 o2 f2 => ?_
      have K' := ks.trans t3
      obtain ⟨r1, r2⟩ := step_but t1 k2 hbF K' hF
      rw [pBin_sub (by omega), show ((m : Nat) : Int) - 1 = ((m - 1 : Nat) : Int) by omega]
      refine hL _ _ (m - 1) (by omega) ⟨v', F', xs ++ [(sv, t, c)], by omega, by simp; omega, r1.more (by omega), r2, fun i hi => ?_, fun hb => ?_, o2, rfl⟩
      · rcases f2 i hi with e | e | e
        · exact hF i e
        · cases e
        · by_cases hib : i = b
          · subst hib; exact del_at
          · have : (σ.del b) i = none := by
              cases hs : (σ.del b) i with
              | none => rfl
              | some r =>
                have := K' i r hs
                rw [del_ne hib, e] at this; cases this
            exact this
      · rcases f2 b hb with e | e | e
        · exact hbF e
        · cases e
        · exact t1.at e
    -- where it is cut
    have cutK : ∀ (sv : Bool) (t : ByteArray) (s' : Vw) (q : Nat), RD w0 s' b q → q + 5 ≤ p + 300 - 13 * (m - 1) → Keeps (s.del b) (s'.del b) → t.size ≤ 6000 →
        AC Tryz.prog w0 n_p_spec_l1Rd_pick [ptr b, .int .i64 3] s' (fun v37 s38 => pBin Tryz.prog 3 .eql v37 (.int .i64 0) (fun v39 => pIf v39 (AC Tryz.prog w0 n_p_spec_l1Rd_pick [ptr b, .int .i64 12] s38 (fun v40 s41 => AC Tryz.prog w0 n_p_spec_l1Rd_pick [ptr b, .int .i64 2] s41 (fun v42 s43 => pBin Tryz.prog 3 .mul v40 v42 (fun v44 => pVal false 1 v44 (AC Tryz.prog w0 n_p_spec_l1Rd_pick [ptr b, .int .i64 4] s43 (fun v45 s46 => pBin Tryz.prog 3 .eql v45 (.int .i64 0) (fun v47 => pIf v47 (AC Tryz.prog w0 n_p_spec_l1Rd_pick [ptr b, .int .i64 70] s46 (fun v48 s49 => pVal false 1 v48 (pVal true 3 (.agg (⟨[.bool sv, .string t, v48]⟩)) ((allOne [.bool sv, .string t, v48]) ∧ (pAppend w0 t_impl_Step 3 32 v 1 [.bool sv, .string t, v48] s49 (fun v50 s51 => pBin Tryz.prog 3 .sub (.int .i64 (m : Nat)) (.int .i64 1) (fun v52 => L [ptr b, v50, v52] s51))))))) (pVal true 3 (.agg (⟨[.bool sv, .string t, v44]⟩)) ((allOne [.bool sv, .string t, v44]) ∧ (pAppend w0 t_impl_Step 3 32 v 1 [.bool sv, .string t, v44] s46 (fun v53 s54 => pBin Tryz.prog 3 .sub (.int .i64 (m : Nat)) (.int .i64 1) (fun v55 => L [ptr b, v53, v55] s54)))))))))))) (pVal true 3 (.agg (⟨[.bool sv, .string t, .int .i64 (-1)]⟩)) ((allOne [.bool sv, .string t, .int .i64 (-1)]) ∧ (pAppend w0 t_impl_Step 3 32 v 1 [.bool sv, .string t, .int .i64 (-1)] s38 (fun v56 s57 => pBin Tryz.prog 3 .sub (.int .i64 (m : Nat)) (.int .i64 1) (fun v58 => L [ptr b, v56, v58] s57))))))) := by
      intro sv t s' q t1 t2 t3 t4
      refine spec_pick (n := 3) t1 (by omega) (by omega) fun a s2 ha hrd2 hd2 _ => ?_
      have k2 := t3.trans (pick_keeps hd2)
      rw [pBin_eq, pIf_d]
      refine ⟨fun _ => ?_, fun _ => push sv t (-1) s2 _ hrd2 (by omega) k2 t4 (by omega)⟩
      refine spec_pick (n := 12) hrd2 (by omega) (by omega) fun a1 s3 ha1 hrd3 hd3 _ => ?_
      refine spec_pick (n := 2) hrd3 (by omega) (by omega) fun a2 s4 ha2 hrd4 hd4 _ => ?_
      have hmul : a1 * a2 ≤ 12 * 2 := Nat.mul_le_mul (by omega) (by omega)
      rw [pBin_mul (by rw [← Int.natCast_mul]; omega), ← Int.natCast_mul, pVal1 rfl]
      have k4 := (k2.trans (pick_keeps hd3)).trans (pick_keeps hd4)
      refine spec_pick (n := 4) hrd4 (by omega) (by omega) fun a3 s5 ha3 hrd5 hd5 _ => ?_
      have k5 := k4.trans (pick_keeps hd5)
      rw [pBin_eq, pIf_d]
      refine ⟨fun _ => ?_, fun _ => push sv t _ s5 _ hrd5 (by omega) k5 t4 (by omega)⟩
      refine spec_pick (n := 70) hrd5 (by omega) (by omega) fun a4 s6 ha4 hrd6 hd6 _ => ?_
      rw [pVal1 rfl]
      exact push sv t _ s6 _ hrd6 (by omega) (k5.trans (pick_keeps hd6)) t4 (by omega)
    refine spec_l24Group hrd (by omega) fun t s2 hrd2 k2 ht => ?_
    rw [pVal1 rfl, pVal1 rfl, pVal_3 rfl rfl rfl]
    refine spec_pick (n := 4) hrd2 (by omega) (by omega) fun a s3 ha hrd3 hd3 _ => ?_
    have k3 := k2.trans (pick_keeps hd3)
    rw [pBin_eq, pIf_d]
    refine ⟨fun _ => ?_, fun _ => cutK false t s3 _ hrd3 (by omega) k3 (by omega)⟩
    rw [pVal1 rfl]
    refine spec_l24Text hrd3 (by omega) fun t' s4 hrd4 k4 ht' => ?_
    rw [pVal1 rfl]
    exact cutK true t' s4 _ hrd4 (by omega) (k3.trans k4) ht'
  · show R v s
    exact hR v xs s (hrd.more (by omega)) ks (osl_del (ok_stp w0) ho.osl hbF) (by omega)

theorem spec_l24Disk {b p : Nat} (h : RD w0 σ b p) (hp : p ≤ 800000) {R : Value → Vw → Prop} (hR : OutDk w0 σ b (p + 301) R) : AC Tryz.prog w0 n_spec_l24Disk [ptr b] σ R := by
  refine ac_spec_l24Disk ?_
  unfold vc_spec_l24Disk
  refine spec_l24New h (by omega) fun v B x s1 hrd1 k1 r1 hop => ?_
  refine spec_l24Steps (most := 14) hrd1 (by omega) (by omega) fun u xs s2 hrd2 k2 r2 hl => ?_
  refine RD.hide hrd2 (spec_StorePlay (r1.mono k2.le fun _ _ h => h) r2 (R := fun w s => ∃ v' es' B' x', w = .tuple ⟨[.agg ⟨[v']⟩, .agg ⟨es'⟩, .bool true]⟩ ∧ openP B' = some x' ∧ Keeps (s2.del b) s ∧ RSl 1 RS (Av.get w0 s) v' B' ∧ RSto (Av.get w0 s) es' x')
    (fun s hno => by rw [hop] at hno; cases hno) fun v' es' x0 B' x' s _ _ hop' k hv he => ⟨v', es', B', x', rfl, hop', k, hv, he⟩) ?_ fun v s ⟨_, _, _, _, _, _, k, _⟩ => k
  rintro _ s3 k3 hrd3 ⟨v', es', B', x', rfl, hop', _, hv, he⟩
  rw [pExtract_s rfl, pExtract_s rfl, pExtract_s rfl, pVal_1 hv.one, he.four]
  simp only [cellOf_agg, List.getD_cons_zero]
  rw [pVal_1 hv.one]
  exact hR v' B' x' s3 (hrd3.more (by omega)) ((k1.trans k2).trans k3) hv hop'
end
end Go.Proofs.YtlfnfpdipghdiaaGreatDoor

/- How a code is opened: a list of bytes. -/
set_option linter.unusedVariables false
set_option linter.unusedSimpArgs false
namespace Go.Proofs.YtlfnfpdipghdiaaGreatDoor
open Go Go.Av Go.RowKit

theorem open_byteD {H : Type} {enc : TypeId × Value → H} {W : World} {spare : Nat → Bool} (fuel : Nat) (es : List Value) (y : DataW H × List MemPlace) (h : DataW.trod enc Tryz.prog W 0 spare true fuel t_uint8 es = some y) (hl : es.length = 1) : ∃ x, RU8 (Av.get W σ0) es x := by
  have hT : Tryz.prog.underlying t_uint8 = some (.int .u8) := by kernel_rfl
  obtain ⟨n, rfl, _, hw⟩ := DataW.trod_int hT h
  have e1 : IntKind.u8.min = 0 := by decide
  have e2 : IntKind.u8.max = 255 := by decide
  simp only [Lit.wf, Bool.and_eq_true, decide_eq_true_eq, e1, e2] at hw
  exact ⟨n.toNat, by rw [Int.toNat_of_nonneg hw.1], by omega⟩
end Go.Proofs.YtlfnfpdipghdiaaGreatDoor

/- Disks that are drawn and spoilt, and writes; the laws on cuts and on the order of writes. -/
set_option linter.unusedVariables false
set_option linter.unusedSimpArgs false
set_option maxRecDepth 20000
namespace Go.Proofs.YtlfnfpdipghdiaaGreatDoor
open Go Go.Av Go.RowKit

section
variable {w0 : World} {σ : Vw}

theorem pv_str (x : ByteArray) (A : Prop) : pVal false 1 (.string x) A ↔ A := pVal1 rfl

set_option maxHeartbeats 2000000 in
theorem spec_l24Spoil {b p : Nat} {v : Value} {B : List ByteArray} (h : RD w0 σ b p) (hp : p ≤ 900000) (hv : RSl 1 RS (Av.get w0 (σ.del b)) v B) (hB : B.length = 194) {R : Value → Vw → Prop} (hR : OutDa w0 σ b (p + 6) R) : AC Tryz.prog w0 n_spec_l24Spoil [ptr b, .agg ⟨[v]⟩] σ R := by
  refine ac_spec_l24Spoil ?_
  unfold vc_spec_l24Spoil
  rw [pVal_1 hv.one]
  simp only [cellOf_agg, List.getD_cons_zero]
  refine RD.hide h (spec_Copy hv (by omega) (R := fun w s => ∃ v F, w = .agg ⟨[v]⟩ ∧ Keeps (σ.del b) s ∧ OAcc w0 t_string 1 OStr s F v B ∧ (∀ i, i ∈ F → (σ.del b) i = none)) fun v F s k o f => ⟨v, F, rfl, k, o, f⟩) ?_ fun v s ⟨_, _, _, k, _⟩ => k
  rintro _ s1 k1 hrd1 ⟨v0, F, rfl, _, o1, hF⟩
  have hbF : b ∉ F := fun hb => (o1.dom (ok_str w0) b hb).2 del_at
  have o1 := o1.frame (σ' := s1) (ok_str w0) fun i hi => (del_ne fun (e : i = b) => hbF (e ▸ hi)).symm
  have r1 := o1.osl.rel (ok_str w0)
  rw [pVal_1 r1.one]
  simp only [cellOf_agg, List.getD_cons_zero]
  refine spec_pick (n := 5) hrd1 (by omega) (by omega) fun j s2 hj hrd2 hd2 _ => ?_
  have k2 := pick_keeps hd2
  have hlen : ∀ {s : Vw} {K : Value → Prop}, Keeps (s1.del b) (s.del b) → (pLen v0 K ↔ K (.int .i64 (194 : Nat))) := fun k => by
    have := (osl_thru (ok_str w0) o1.osl hbF k).rel (ok_str w0)
    rw [this.len, hB]
  -- a block is written
  have st : ∀ (s' : Vw) (q k : Nat) (t : ByteArray), RD w0 s' b q → q ≤ p + 6 → Keeps (s1.del b) (s'.del b) → k < 194 → t.size ≤ 1000 →
      pIndexAddr 1 v0 (.int .i64 (k : Nat)) (fun v17 => pVal false 1 (.string t) (pStore v17 [.string t] s' (fun s18 => pVal true 1 (.agg (⟨[v0]⟩)) (R (.agg (⟨[v0]⟩)) s18)))) := by
    intro s' q k t t1 t2 t3 t4 t5
    have os := osl_thru (ok_str w0) o1.osl hbF t3
    refine str_store os (List.getElem?_eq_getElem (show k < B.length by omega)) (by omega) fun s'' k' o' => ?_
    obtain ⟨q1, q2⟩ := step_but t1 k' hbF (k1.trans t3) hF
    have r' := osl_del (ok_str w0) o' hbF
    rw [pVal_1 r'.one]
    exact hR v0 _ s'' (q1.more t2) q2 r' (by rw [List.length_set]; omega)
  rw [pBin_eq, pIf_d]
  refine ⟨fun _ => ?_, fun _ => ?_⟩
  · rw [hlen k2, pBin_sub (by omega)]
    have r2 := (osl_thru (ok_str w0) o1.osl hbF k2)
    refine (osl_del (ok_str w0) r2 hbF).slice (l := 0) (u := 193) rfl (by rw [hB]; rfl) (by omega) (by omega) fun v7 r7 => ?_
    rw [pVal1 r7.one, pVal_1 r7.one]
    exact hR v7 _ s2 (hrd2.more (by omega)) (k1.trans k2) r7 (by simp; omega)
  rw [pBin_eq, pIf_d]
  refine ⟨fun _ => ?_, fun _ => ?_⟩
  · rw [hlen k2]
    refine spec_pick (n := 194) hrd2 (by omega) (by omega) fun a s3 ha hrd3 hd3 _ => ?_
    refine spec_pick (n := 2) hrd3 (by omega) (by omega) fun a2 s4 ha2 hrd4 hd4 _ => ?_
    have e1 : (⟨#[113]⟩ : ByteArray).size = 1 := rfl
    rw [pBin_add (by omega), show (64 : Int) + (a2 : Nat) = ((64 + a2 : Nat) : Int) by omega]
    refine spec_l1Many (by rw [e1]; omega) (by rw [e1]; omega) (by omega) fun t ht => ?_
    rw [e1] at ht
    exact st s4 _ a t hrd4 (by omega) ((k2.trans (pick_keeps hd3)).trans (pick_keeps hd4)) ha (by omega)
  rw [pBin_eq, pIf_d]
  refine ⟨fun _ => ⟨?_, ?_⟩, fun _ => ?_⟩
  · refine spec_pick (n := 2) hrd2 (by omega) (by omega) fun a s3 ha hrd3 hd3 _ => ?_
    simp only [pv_str]
    refine of_lit (xs := [(⟨#[]⟩ : ByteArray), ⟨#[67, 32, 49, 32, 48]⟩, ⟨#[67, 32, 50, 32, 57]⟩, ⟨#[67, 32, 50, 32, 53, 48, 48, 48]⟩, ⟨#[67, 32, 51, 32, 51, 50, 48, 48]⟩, ⟨#[67, 32, 48, 32, 48]⟩, ⟨#[67, 32, 49]⟩, ⟨#[88, 32, 49, 32, 49]⟩, ⟨#[67, 32, 48, 49, 32, 48]⟩, ⟨#[67, 32, 57, 57, 57, 57, 57, 32, 48]⟩, ⟨#[67, 32, 57, 57, 57, 57, 56, 32, 49]⟩]) hrd3 (by omega) (by simp) (by decide) rfl rfl fun x s4 hx hrd4 k4 => ?_
    have hxs : x.size ≤ 1000 := (show ∀ x, x ∈ [(⟨#[]⟩ : ByteArray), ⟨#[67, 32, 49, 32, 48]⟩, ⟨#[67, 32, 50, 32, 57]⟩, ⟨#[67, 32, 50, 32, 53, 48, 48, 48]⟩, ⟨#[67, 32, 51, 32, 51, 50, 48, 48]⟩, ⟨#[67, 32, 48, 32, 48]⟩, ⟨#[67, 32, 49]⟩, ⟨#[88, 32, 49, 32, 49]⟩, ⟨#[67, 32, 48, 49, 32, 48]⟩, ⟨#[67, 32, 57, 57, 57, 57, 57, 32, 48]⟩, ⟨#[67, 32, 57, 57, 57, 57, 56, 32, 49]⟩] → x.size ≤ 1000 by decide) x hx
    exact st s4 _ a x hrd4 (by omega) ((k2.trans (pick_keeps hd3)).trans k4) (by omega) hxs
  · simp only [pv_str]
    intro n g3 g4
    obtain ⟨hne, hrd3, k3⟩ := hrd2.new (r := ⟨t_string, [.string ⟨#[]⟩, .string ⟨#[67, 32, 49, 32, 48]⟩, .string ⟨#[67, 32, 50, 32, 57]⟩, .string ⟨#[67, 32, 50, 32, 53, 48, 48, 48]⟩, .string ⟨#[67, 32, 51, 32, 51, 50, 48, 48]⟩, .string ⟨#[67, 32, 48, 32, 48]⟩, .string ⟨#[67, 32, 49]⟩, .string ⟨#[88, 32, 49, 32, 49]⟩, .string ⟨#[67, 32, 48, 49, 32, 48]⟩, .string ⟨#[67, 32, 57, 57, 57, 57, 57, 32, 48]⟩, .string ⟨#[67, 32, 57, 57, 57, 57, 56, 32, 49]⟩], 11, (0, 0)⟩) g4
    refine spec_pick (n := 2) hrd3 (by omega) (by omega) fun a s4 ha hrd4 hd4 ho4 => ?_
    have hsz : ∀ x, x ∈ [(⟨#[]⟩ : ByteArray), ⟨#[67, 32, 49, 32, 48]⟩, ⟨#[67, 32, 50, 32, 57]⟩, ⟨#[67, 32, 50, 32, 53, 48, 48, 48]⟩, ⟨#[67, 32, 51, 32, 51, 50, 48, 48]⟩, ⟨#[67, 32, 48, 32, 48]⟩, ⟨#[67, 32, 49]⟩, ⟨#[88, 32, 49, 32, 49]⟩, ⟨#[67, 32, 48, 49, 32, 48]⟩, ⟨#[67, 32, 57, 57, 57, 57, 57, 32, 48]⟩, ⟨#[67, 32, 57, 57, 57, 57, 56, 32, 49]⟩] → x.size ≤ 1000 := by decide
    refine spec_of hrd4 (by omega) (row_strs (xs := [(⟨#[]⟩ : ByteArray), ⟨#[67, 32, 49, 32, 48]⟩, ⟨#[67, 32, 50, 32, 57]⟩, ⟨#[67, 32, 50, 32, 53, 48, 48, 48]⟩, ⟨#[67, 32, 51, 32, 51, 50, 48, 48]⟩, ⟨#[67, 32, 48, 32, 48]⟩, ⟨#[67, 32, 49]⟩, ⟨#[88, 32, 49, 32, 49]⟩, ⟨#[67, 32, 48, 49, 32, 48]⟩, ⟨#[67, 32, 57, 57, 57, 57, 57, 32, 48]⟩, ⟨#[67, 32, 57, 57, 57, 57, 56, 32, 49]⟩]) (k := 11) g3 (by rw [del_ne hne, ho4 n hne]; exact put_at) (fun x hx => by have := hsz x hx; omega) (by simp)) (by simp) fun x s5 hx hrd5 hd5 _ => ?_
    exact st s5 _ a x hrd5 (by omega) (((k2.trans k3).trans (pick_keeps hd4)).trans (pick_keeps hd5)) (by omega) (hsz x hx)
  rw [pBin_eq, pIf_d]
  refine ⟨fun _ => ⟨?_, ?_⟩, fun _ => ?_⟩
  · refine spec_pick (n := 12) hrd2 (by omega) (by omega) fun a s3 ha hrd3 hd3 _ => ?_
    rw [pBin_add (by omega), show (2 : Int) + (a : Nat) = ((2 + a : Nat) : Int) by omega]
    simp only [pv_str]
    have hsz : ∀ x, x ∈ [(⟨#[]⟩ : ByteArray), ⟨#[68]⟩, ⟨#[72, 32, 49, 32, 48, 32, 48]⟩, ⟨#[72, 32, 50, 32, 48, 32, 53]⟩, ⟨#[72, 32, 49, 32, 49, 32, 54, 48, 48]⟩, ⟨#[72, 32, 49, 32, 48, 32, 54, 48, 49]⟩, ⟨#[68, 97, 98, 99]⟩] → x.size ≤ 1000 := by decide
    refine of_lit (xs := [(⟨#[]⟩ : ByteArray), ⟨#[68]⟩, ⟨#[72, 32, 49, 32, 48, 32, 48]⟩, ⟨#[72, 32, 50, 32, 48, 32, 53]⟩, ⟨#[72, 32, 49, 32, 49, 32, 54, 48, 48]⟩, ⟨#[72, 32, 49, 32, 48, 32, 54, 48, 49]⟩, ⟨#[68, 97, 98, 99]⟩]) hrd3 (by omega) (by simp) (fun x hx => by have := hsz x hx; omega) rfl rfl fun x s4 hx hrd4 k4 => ?_
    exact st s4 _ (2 + a) x hrd4 (by omega) ((k2.trans (pick_keeps hd3)).trans k4) (by omega) (hsz x hx)
  · simp only [pv_str]
    intro n g3 g4
    obtain ⟨hne, hrd3, k3⟩ := hrd2.new (r := ⟨t_string, [.string ⟨#[]⟩, .string ⟨#[68]⟩, .string ⟨#[72, 32, 49, 32, 48, 32, 48]⟩, .string ⟨#[72, 32, 50, 32, 48, 32, 53]⟩, .string ⟨#[72, 32, 49, 32, 49, 32, 54, 48, 48]⟩, .string ⟨#[72, 32, 49, 32, 48, 32, 54, 48, 49]⟩, .string ⟨#[68, 97, 98, 99]⟩], 7, (0, 0)⟩) g4
    refine spec_pick (n := 12) hrd3 (by omega) (by omega) fun a s4 ha hrd4 hd4 ho4 => ?_
    rw [pBin_add (by omega), show (2 : Int) + (a : Nat) = ((2 + a : Nat) : Int) by omega]
    have hsz : ∀ x, x ∈ [(⟨#[]⟩ : ByteArray), ⟨#[68]⟩, ⟨#[72, 32, 49, 32, 48, 32, 48]⟩, ⟨#[72, 32, 50, 32, 48, 32, 53]⟩, ⟨#[72, 32, 49, 32, 49, 32, 54, 48, 48]⟩, ⟨#[72, 32, 49, 32, 48, 32, 54, 48, 49]⟩, ⟨#[68, 97, 98, 99]⟩] → x.size ≤ 1000 := by decide
    refine spec_of hrd4 (by omega) (row_strs (xs := [(⟨#[]⟩ : ByteArray), ⟨#[68]⟩, ⟨#[72, 32, 49, 32, 48, 32, 48]⟩, ⟨#[72, 32, 50, 32, 48, 32, 53]⟩, ⟨#[72, 32, 49, 32, 49, 32, 54, 48, 48]⟩, ⟨#[72, 32, 49, 32, 48, 32, 54, 48, 49]⟩, ⟨#[68, 97, 98, 99]⟩]) (k := 7) g3 (by rw [del_ne hne, ho4 n hne]; exact put_at) (fun x hx => by have := hsz x hx; omega) (by simp)) (by simp) fun x s5 hx hrd5 hd5 _ => ?_
    exact st s5 _ (2 + a) x hrd5 (by omega) (((k2.trans k3).trans (pick_keeps hd4)).trans (pick_keeps hd5)) (by omega) (hsz x hx)
  · rw [hlen k2]
    refine spec_pick (n := 194) hrd2 (by omega) (by omega) fun a s3 ha hrd3 hd3 _ => ?_
    exact st s3 _ a ⟨#[]⟩ hrd3 (by omega) (k2.trans (pick_keeps hd3)) ha (Nat.zero_le _)

theorem spec_l24Any {b p : Nat} (h : RD w0 σ b p) (hp : p ≤ 800000) {R : Value → Vw → Prop} (hR : OutDa w0 σ b (p + 308) R) : AC Tryz.prog w0 n_spec_l24Any [ptr b] σ R := by
  refine ac_spec_l24Any ?_
  unfold vc_spec_l24Any
  refine spec_l24Disk h (by omega) fun v B x s1 hrd1 k1 r1 hop => ?_
  have hB := (diskOk_iff.1 (open_ok hop).2).2
  rw [pVal_1 r1.one]
  simp only [cellOf_agg, List.getD_cons_zero]
  refine spec_pick (n := 6) hrd1 (by omega) (by omega) fun j s2 hj hrd2 hd2 _ => ?_
  have k2 := pick_keeps hd2
  have r2 := r1.mono k2.le fun _ _ h => h
  rw [pBin_eq, pIf_d]
  refine ⟨fun _ => ?_, fun _ => ?_⟩
  · refine spec_l24Spoil hrd2 (by omega) r2 hB fun v' B' s3 hrd3 k3 r3 hl => ?_
    rw [pVal_1 r3.one]
    simp only [cellOf_agg, List.getD_cons_zero]
    exact hR v' B' s3 (hrd3.more (by omega)) ((k1.trans k2).trans k3) r3 hl
  · rw [pVal_1 r2.one]
    exact hR v B s2 (hrd2.more (by omega)) (k1.trans k2) r2 (by omega)

end
end Go.Proofs.YtlfnfpdipghdiaaGreatDoor

/- Pages: what is read of them; the chain of a text, by either reading. -/
set_option linter.unusedVariables false
set_option linter.unusedSimpArgs false
namespace Go.Proofs.YtlfnfpdipghdiaaGreatDoor
open Go Go.Av

structure Pg where
  used : Bool
  data : ByteArray
  next : Int
structure Pn where
  name : ByteArray
  first : Int
  size : Int
noncomputable instance : DecidableEq Pg := fun _ _ => Classical.propDecidable _
noncomputable instance : DecidableEq Pn := fun _ _ => Classical.propDecidable _
section
variable {w0 : World} {σ : Vw}

end
end Go.Proofs.YtlfnfpdipghdiaaGreatDoor

/- Structs compared by == and !=: where each field is one cell, a number, a text or a bool. -/
set_option linter.unusedVariables false
set_option linter.unusedSimpArgs false
namespace Go.Av
open Go Go.RowKit

section
variable {P : Program}

theorem agg_val {T : Nat} {xs ys : List Value} {r : Bool} {op : BinOp} (hg : P.eqGuardType P.depth T = false) (hr : ∀ w : World, (Op.equalIn 10000 T (.agg ⟨xs⟩) (.agg ⟨ys⟩)).run P w = .ok r w) {v : Value} (hv : (match op with | .eql => some (Value.bool r) | .neq => some (.bool (!r)) | _ => none) = some v) {K : Value → Prop} :
    pBin P T op (.agg ⟨xs⟩) (.agg ⟨ys⟩) K ↔ K v := by
  have hx : P.eqGuardType P.depth T = false ∧ ∃ r : Bool, ∀ w : World, (Op.equalIn 10000 T (.agg ⟨xs⟩) (.agg ⟨ys⟩)).run P w = .ok r w := ⟨hg, r, hr⟩
  have e : Classical.choose hx.2 = r := by
    have := Classical.choose_spec hx.2 default
    rw [hr default] at this
    injection this with h
    exact h.symm
  have ev : abinT P T op (.agg ⟨xs⟩) (.agg ⟨ys⟩) = some v := by
    show aggB P T op ⟨xs⟩ ⟨ys⟩ = _
    unfold aggB
    rw [dif_pos hx, e]
    exact hv
  exact ⟨fun ⟨_, h, hK⟩ => by rw [ev] at h; cases h; exact hK, fun h => ⟨_, ev, h⟩⟩

def kindF (P : Program) (t : Nat) (v : Value) : Bool :=
  match P.underlying t, v with
  | some .bool, .bool _ => true
  | some (.int _), .int _ _ => true
  | some .string, .string _ => true
  | _, _ => false
/-- Each field is one cell, at its place, of a kind that the value has. -/
def okF (P : Program) : List Field → List Value → Nat → Bool
  | [], [], _ => true
  | f :: fs, v :: vs, i => (f.name != "_") && (Nat.beq f.offset i && (kindF P f.type v && okF P fs vs (i + 1)))
  | _, _, _ => false
def cellEq : Value → Value → Bool
  | .bool a, .bool b => a == b
  | .int _ a, .int _ b => a == b
  | .string a, .string b => a.toList == b.toList
  | _, _ => false
def sameK : Value → Value → Prop
  | .bool _, .bool _ => True
  | .int k _, .int k' _ => k = k'
  | .string _, .string _ => True
  | _, _ => False
def allEq : List Value → List Value → Bool
  | [], [] => true
  | u :: us, v :: vs => cellEq u v && allEq us vs
  | _, _ => false
def allK : List Value → List Value → Prop
  | [], [] => True
  | u :: us, v :: vs => sameK u v ∧ allK us vs
  | _, _ => False

theorem run_cell {t d : Nat} {u v : Value} (w : World) (hk : sameK u v) (hu : kindF P t u = true) : P.plainKey t = true ∧ (Op.equalIn (d + 1) t u v).run P w = .ok (cellEq u v) w := by
  unfold kindF at hu
  cases h : P.underlying t with
  | none => rw [h] at hu; cases hu
  | some x =>
    rw [h] at hu
    cases u <;> cases v <;> (try exact hk.elim)
    · cases x <;> (try (simp at hu; done))
      refine ⟨by simp [Program.plainKey, h], ?_⟩
      exact run_equalIn_bool' w d t _ _ h
    · cases x <;> (try (simp at hu; done))
      refine ⟨by simp [Program.plainKey, h], ?_⟩
      have hk : _ = _ := hk
      subst hk
      exact run_equalIn_int w d t _ _ _ _ h
    · cases x <;> (try (simp at hu; done))
      refine ⟨by simp [Program.plainKey, h], ?_⟩
      exact run_equalIn_string w d t _ _ h
theorem run_fields {d : Nat} {xs ys : Array Value} (w : World) : ∀ (fs : List Field) (us vs : List Value) (i : Nat), okF P fs us i = true → allK us vs → (∀ j, j < us.length → xs[i + j]? = us[j]?) → (∀ j, j < vs.length → ys[i + j]? = vs[j]?) → (Op.eqFields (d + 1) xs ys fs).run P w = .ok (allEq us vs) w
  | [], [], [], _, _, _, _, _ => by simp [Op.eqFields, allEq]
  | [], [], _ :: _, _, _, hk, _, _ => hk.elim
  | [], _ :: _, _, _, h, _, _, _ => by simp [okF] at h
  | _ :: _, [], _, _, h, _, _, _ => by simp [okF] at h
  | _ :: _, _ :: _, [], _, _, hk, _, _ => hk.elim
  | f :: fs, u :: us, v :: vs, i, h, hk, hx, hy => by
    unfold okF at h
    simp only [Bool.and_eq_true] at h
    obtain ⟨h1, h2, h3, h4⟩ := h
    have h1 : f.name ≠ "_" := by simpa using h1
    have h2 : f.offset = i := Nat.eq_of_beq_eq_true h2
    obtain ⟨p1, p2⟩ := run_cell (d := d) w hk.1 h3
    have x0 : xs[f.offset]? = some u := by rw [h2]; exact hx 0 (by simp)
    have y0 : ys[f.offset]? = some v := by rw [h2]; exact hy 0 (by simp)
    have ih := run_fields (d := d) (xs := xs) (ys := ys) w fs us vs (i + 1) h4 hk.2 (fun j hj => by have := hx (j + 1) (by simpa using hj); rw [show i + 1 + j = i + (j + 1) by omega]; simpa using this) (fun j hj => by have := hy (j + 1) (by simpa using hj); rw [show i + 1 + j = i + (j + 1) by omega]; simpa using this)
    unfold Op.eqFields
    rw [if_pos h1]
    simp only [Sem.run_bind, run_part_plain w p1 x0, run_part_plain w p1 y0, Result.andThen_ok, p2, Sem.run_ite, Sem.run_pure, ih, allEq]
    cases cellEq u v <;> simp

/-- Structs of plain cells. -/
theorem agg_cells {T : Nat} {xs ys : List Value} {op : BinOp} (ht : P.underlying T = some (.struct (P.fieldsOf T))) (hs : P.stoodInHeld T = false) (hg : P.eqGuardType P.depth T = false) (hf : okF P (P.fieldsOf T).toList xs 0 = true) (hk : allK xs ys) {v : Value} (hv : (match op with | .eql => some (Value.bool (allEq xs ys)) | .neq => some (.bool (!(allEq xs ys))) | _ => none) = some v) {K : Value → Prop} :
    pBin P T op (.agg ⟨xs⟩) (.agg ⟨ys⟩) K ↔ K v := by
  refine agg_val hg (fun w => ?_) hv
  rw [run_equalIn_agg w 9999 T _ _ ht hs]
  exact run_fields (d := 9998) w _ xs ys 0 hf hk (fun j _ => by simp) (fun j _ => by simp)
end
end Go.Av
namespace Go.Proofs.YtlfnfpdipghdiaaGreatDoor
open Go Go.Av Go.RowKit

theorem list_eq {a b : ByteArray} : (a.toList == b.toList) = decide (a = b) := Go.Av.toList_eq
theorem eq_rw (x y : Rw) : allEq (encRaw x) (encRaw y) = decide (x = y) := by
  obtain ⟨a, b⟩ := x
  obtain ⟨d, e⟩ := y
  show (a == d && (b.toList == e.toList && true)) = _
  rw [list_eq, Bool.and_true]
  apply Bool.eq_iff_iff.2
  simp
theorem pBin_rw {x y : Rw} {K : Value → Prop} : pBin Tryz.prog t_impl_Raw .neq (.agg ⟨encRaw x⟩) (.agg ⟨encRaw y⟩) K ↔ K (.bool (decide (x ≠ y))) := by
  refine agg_cells (by kernel_rfl) (by kernel_rfl) (by kernel_rfl) (by kernel_rfl) (show allK (encRaw x) (encRaw y) from ⟨rfl, trivial, trivial⟩) ?_
  rw [eq_rw]; simp
end Go.Proofs.YtlfnfpdipghdiaaGreatDoor

/- The laws on stores: what they draw, what they compare. -/
set_option linter.unusedVariables false
set_option linter.unusedSimpArgs false
set_option maxRecDepth 20000
namespace Go.Proofs.YtlfnfpdipghdiaaGreatDoor
open Go Go.Av Go.RowKit

abbrev Codes (w0 : World) (u : Value) (bs : List Nat) : Prop := RSl 1 RU8 (Av.get w0 (fun _ => none)) u bs

section
variable {w0 : World} {σ : Vw}

theorem Codes.at {u : Value} {bs : List Nat} (h : Codes w0 u bs) : RSl 1 RU8 (Av.get w0 σ) u bs := h.mono (Keeps.le fun _ _ h => by cases h) fun _ _ h => h
theorem pB_ne {T : Nat} (hT : Tryz.prog.underlying T = some .bool) {a : Bool} {K : Value → Prop} : pBin Tryz.prog T .neq (.bool a) (.bool a) K ↔ K (.bool false) := pBin_b (v := .bool false) hT (by simp)
theorem pB_eq {T : Nat} (hT : Tryz.prog.underlying T = some .bool) {a : Bool} {K : Value → Prop} : pBin Tryz.prog T .eql (.bool a) (.bool a) K ↔ K (.bool true) := pBin_b (v := .bool true) hT (by simp)

theorem wdRaws {v v' : Value} {xs ys : List Rw} (h : RSl 2 RRaw (Av.get w0 σ) v xs) (h' : RSl 2 RRaw (Av.get w0 σ) v' ys) {R : Value → Vw → Prop} (hR : R (.bool (decide (xs = ys))) σ) : AC Tryz.prog w0 n_laws_wdRaws [v, v'] σ R := by
  refine ac_laws_wdRaws ?_
  unfold vc_laws_wdRaws
  have no : xs ≠ ys → R (.bool false) σ := fun h => by rw [decide_eq_false h] at hR; exact hR
  have hl := h.le
  rw [h.len, h'.len, pBin_ne, pIf_d]
  refine ⟨fun hne => no fun e => hne (by rw [e]), fun hl1 => ?_⟩
  have hl1 : xs.length = ys.length := by omega
  refine loop_rule (m := xs.length) (fun m l s => ∃ j : Nat, m + j = xs.length ∧ s = σ ∧ (∀ i, i < j → xs[i]? = ys[i]?) ∧ l = [v, v', .bool false, .int .i64 (j : Nat)]) ?_ ⟨0, by omega, rfl, fun i h => by omega, rfl⟩
  rintro m l s L ⟨j, hm, rfl, hj, rfl⟩ hL
  simp only [vget, List.getD_cons_zero, List.getD_cons_succ]
  rw [h.len, pBin_lt, pIf_d]
  refine ⟨fun hlt => ?_, fun hge => ?_⟩
  · have hx := List.getElem?_eq_getElem (show j < xs.length by omega)
    have hy := List.getElem?_eq_getElem (show j < ys.length by omega)
    generalize xs[j]'(by omega) = a at hx
    generalize ys[j]'(by omega) = c at hy
    refine h.at hx fun g hg => ?_
    obtain ⟨hg, _⟩ := hg
    refine h'.at hy fun g' hg' => ?_
    obtain ⟨hg', _⟩ := hg'
    simp only [expl, encRaw, List.cons.injEq, and_true] at hg hg'
    rw [hg.1, hg.2, hg'.1, hg'.2]
    show pBin Tryz.prog t_impl_Raw .neq (.agg ⟨encRaw a⟩) (.agg ⟨encRaw c⟩) _
    rw [pBin_rw, pIf_d]
    refine ⟨fun hne => no fun e => ?_, fun he => ?_⟩
    · subst e; rw [hx] at hy; cases hy; exact hne rfl
    have he : a = c := by simpa using he
    rw [pBin_add (by omega)]
    refine hL _ _ (m - 1) (by omega) ⟨j + 1, by omega, rfl, fun i hi => ?_, rfl⟩
    by_cases e : i = j
    · subst e; rw [hx, hy, he]
    · exact hj i (by omega)
  · have e1 : xs = ys := by
      apply List.ext_getElem?
      intro i
      rcases Nat.lt_or_ge i xs.length with e | e
      · exact hj i (by omega)
      · rw [List.getElem?_eq_none e, List.getElem?_eq_none (by omega)]
    rw [decide_eq_true e1] at hR
    exact hR

/-! ### Draws -/
theorem spec_DrawStoreOpen {u : Value} {bs : List Nat} (h : Codes w0 u bs) {R : Value → Vw → Prop} (hR : ∀ v (B : List ByteArray) s, RSl 1 RS (Av.get w0 s) v B → B.length ≤ 194 → R (.agg ⟨[v]⟩) s) : AC Tryz.prog w0 n_spec_DrawStoreOpen [u] σ R := by
  refine ac_spec_DrawStoreOpen ?_
  unfold vc_spec_DrawStoreOpen
  refine spec_l1Open h fun b s0 hrd0 hd0 hb0 => ?_
  refine spec_l24Any hrd0 (by omega) fun v B s1 hrd1 k1 r1 hBl => ?_
  rw [pVal_1 r1.one]
  simp only [cellOf_agg, List.getD_cons_zero]
  exact hR v B s1 (r1.mono del_le fun _ _ h => h) hBl
theorem spec_DrawStoreNew {u : Value} {bs : List Nat} (h : Codes w0 u bs) {R : Value → Vw → Prop} (hR : ∀ (t : ByteArray) s, Keeps σ s → t.size ≤ 6000 → R (.string t) s) : AC Tryz.prog w0 n_spec_DrawStoreNew [u] σ R := by
  refine ac_spec_DrawStoreNew ?_
  unfold vc_spec_DrawStoreNew
  refine spec_l1Open h fun b s0 hrd0 hd0 hb0 => ?_
  refine spec_l24Text hrd0 (by omega) fun t s1 hrd1 k1 ht => ?_
  rw [hd0] at k1
  exact hR t s1 (k1.trans del_keeps) ht
theorem spec_DrawDiskOk {u : Value} {bs : List Nat} (h : Codes w0 u bs) {R : Value → Vw → Prop} (hR : ∀ v (B : List ByteArray) s, Keeps σ s → RSl 1 RS (Av.get w0 s) v B → R (.agg ⟨[v]⟩) s) : AC Tryz.prog w0 n_spec_DrawDiskOk [u] σ R := by
  refine ac_spec_DrawDiskOk ?_
  unfold vc_spec_DrawDiskOk
  refine spec_l1Open h fun b s0 hrd0 hd0 hb0 => ?_
  refine spec_l24Disk hrd0 (by omega) fun v B x s1 hrd1 k1 r1 hop => ?_
  rw [hd0] at k1
  rw [pVal_1 r1.one]
  simp only [cellOf_agg, List.getD_cons_zero]
  refine spec_pick (n := 2) hrd1 (by omega) (by omega) fun j s2 hj hrd2 hd2 _ => ?_
  have k2 := k1.trans (pick_keeps hd2)
  have r2 := r1.mono (pick_keeps hd2).le fun _ _ h => h
  rw [pBin_eq, pIf_d]
  refine ⟨fun _ => ?_, fun _ => ?_⟩
  · refine spec_l24Spoil hrd2 (by omega) r2 (diskOk_iff.1 (open_ok hop).2).2 fun v' B' s3 hrd3 k3 r3 hl => ?_
    rw [pVal_1 r3.one]
    simp only [cellOf_agg, List.getD_cons_zero]
    exact hR v' B' s3 ((k2.trans k3).trans del_keeps) (r3.mono del_le fun _ _ h => h)
  · rw [pVal_1 r2.one]
    exact hR v B s2 (k2.trans del_keeps) (r2.mono del_le fun _ _ h => h)
end
end Go.Proofs.YtlfnfpdipghdiaaGreatDoor

/- strings.Split, Cut, TrimPrefix at one byte, by the shelf; cuts by hand. -/
set_option linter.unusedVariables false
set_option linter.unusedSimpArgs false
namespace Go.Proofs.YtlfnfpdipghdiaaGreatDoor
open Go Go.Av Go.RowKit

/-! ### The library's cuts are these cuts -/
theorem ib_none {c : UInt8} : ∀ {l : List UInt8}, c ∉ l → Lib.indexByte l c = -1
  | [], _ => rfl
  | b :: r, h => by
    have h1 : ¬ b = c := fun e => h (e ▸ List.mem_cons_self)
    have h2 : c ∉ r := fun e => h (List.mem_cons_of_mem _ e)
    rw [Lib.indexByte, if_neg (by simpa using h1), ib_none h2]; rfl
theorem ib_at {c : UInt8} : ∀ {a r : List UInt8}, c ∉ a → Lib.indexByte (a ++ c :: r) c = (a.length : Int)
  | [], r, _ => by simp [Lib.indexByte]
  | b :: a, r, h => by
    have h1 : ¬ b = c := fun e => h (e ▸ List.mem_cons_self)
    have h2 : c ∉ a := fun e => h (List.mem_cons_of_mem _ e)
    rw [List.cons_append, Lib.indexByte, if_neg (by simpa using h1), ib_at h2, if_neg (by simp)]
    simp
theorem split_first {c : UInt8} : ∀ {l : List UInt8}, c ∈ l → ∃ a r, l = a ++ c :: r ∧ c ∉ a
  | b :: r, h => by
    by_cases e : b = c
    · exact ⟨[], r, by rw [e]; rfl, by simp⟩
    · have : c ∈ r := by
        rcases List.mem_cons.1 h with h | h
        · exact absurd h.symm e
        · exact h
      obtain ⟨a, t, h1, h2⟩ := split_first this
      exact ⟨b :: a, t, by rw [h1]; rfl, fun h => by rcases List.mem_cons.1 h with h | h; exact e h.symm; exact h2 h⟩
theorem count_at {c : UInt8} {a r : List UInt8} (h : c ∉ a) : (a ++ c :: r).count c = r.count c + 1 := by
  rw [List.count_append, List.count_eq_zero.2 h, List.count_cons_self]; omega
theorem countFrom_one {c : UInt8} : ∀ (fuel : Nat) (l : List UInt8), l.length < fuel → Lib.countFrom [c] fuel l = l.count c
  | 0, l, h => by omega
  | fuel + 1, l, h => by
    unfold Lib.countFrom
    by_cases hc : c ∈ l
    · obtain ⟨a, r, rfl, ha⟩ := split_first hc
      rw [Lib.index_one, ib_at ha, if_neg (by simp)]
      have e : (a ++ c :: r).drop ((a.length : Int).toNat + [c].length) = r := by simp [List.drop_append]
      rw [e, count_at ha, countFrom_one fuel r (by simp at h; omega)]; omega
    · rw [Lib.index_one, ib_none hc, if_pos (by simp), List.count_eq_zero.2 hc]
theorem splitK_one {c : UInt8} : ∀ (k : Nat) (l : List UInt8), l.count c ≤ k → Lib.splitK [c] 0 k l = cutL c l
  | 0, l, h => by
    have : c ∉ l := List.count_eq_zero.1 (by omega)
    rw [cutL_none this]; rfl
  | k + 1, l, h => by
    unfold Lib.splitK
    by_cases hc : c ∈ l
    · obtain ⟨a, r, rfl, ha⟩ := split_first hc
      rw [Lib.index_one, ib_at ha, if_neg (by simp), cutL_at ha]
      have e : (a ++ c :: r).drop ((a.length : Int).toNat + [c].length) = r := by simp [List.drop_append]
      have e2 : (a ++ c :: r).take ((a.length : Int).toNat + 0) = a := by simp
      rw [count_at ha] at h
      rw [e, e2, splitK_one k r (by omega)]
    · rw [Lib.index_one, ib_none hc, if_pos (by simp), cutL_none hc]
theorem cutL_length {c : UInt8} (l : List UInt8) : (cutL c l).length = l.count c + 1 := by
  suffices h : ∀ (n : Nat) (l : List UInt8), l.length ≤ n → (cutL c l).length = l.count c + 1 from h l.length l (Nat.le_refl _)
  intro n
  induction n with
  | zero => intro l h; have : l = [] := List.eq_nil_of_length_eq_zero (by omega); subst this; rfl
  | succ n ih =>
    intro l h
    by_cases hc : c ∈ l
    · obtain ⟨a, r, rfl, ha⟩ := split_first hc
      rw [cutL_at ha, count_at ha, List.length_cons, ih r (by simp at h; omega)]
    · rw [cutL_none hc, List.count_eq_zero.2 hc]; rfl
theorem splitB_cutS (s : ByteArray) (c : UInt8) : Lib.splitB ⟨#[c]⟩ 0 (Lib.countB s ⟨#[c]⟩) s = cutS c s := by
  have h := Lib.splitB_data ⟨#[c]⟩ 0 (Lib.countB s ⟨#[c]⟩) s
  have e : Lib.countB s ⟨#[c]⟩ = (bl s).count c := countFrom_one (c := c) _ _ (by show s.data.toList.length < s.data.toList.length + 1; omega)
  have h2 : (Lib.splitB ⟨#[c]⟩ 0 (Lib.countB s ⟨#[c]⟩) s).map bl = cutL c (bl s) := by
    rw [← splitK_one (c := c) (Lib.countB s ⟨#[c]⟩) (bl s) (by omega)]; exact h
  rw [cutS, ← h2, List.map_map]
  have : (ofL ∘ bl) = id := by funext x; exact ofL_bl x
  rw [this, List.map_id]
theorem countB_len (s : ByteArray) (c : UInt8) : Lib.countB s ⟨#[c]⟩ + 1 = (cutS c s).length := by
  have e : Lib.countB s ⟨#[c]⟩ = (bl s).count c := countFrom_one (c := c) _ _ (by show s.data.toList.length < s.data.toList.length + 1; omega)
  rw [cutS, List.length_map, cutL_length, e]
section
variable {w0 : World} {σ : Vw}

/-- The variable that the library reads holds a number. -/
def MaxL (w0 : World) : Prop := ∃ m, ∀ w, Below w0.heap.size w0 w → w.cell? ⟨0, 0, none⟩ = some (.int .i64 m)

end
end Go.Proofs.YtlfnfpdipghdiaaGreatDoor

/- Words and numbers as the library reads them. -/
set_option linter.unusedVariables false
set_option linter.unusedSimpArgs false
namespace Go.Proofs.YtlfnfpdipghdiaaGreatDoor
open Go Go.Av Go.RowKit

/-- A number as the library reads it. -/
def numI (s : ByteArray) : Int :=
  match Lib.atoiAll (bl s) with
  | .ok v => v
  | .range => Lib.atoiSat (bl s)
  | _ => 0
theorem bl_ofLs' (l : List (List UInt8)) : (l.map ofL).map bl = l := by rw [List.map_map]; exact List.map_id' l
theorem cut_join {c : UInt8} : ∀ (n : Nat) (l : List UInt8), l.length ≤ n → l = (((cutL c l).dropLast).map (· ++ [c])).flatten ++ ((cutL c l).getLast?).getD []
  | n, l, h => by
    by_cases hc : c ∈ l
    · obtain ⟨a, r, rfl, ha⟩ := split_first hc
      rw [cutL_at ha]
      cases n with
      | zero => simp at h
      | succ n =>
        have ih := cut_join (c := c) n r (by simp at h; omega)
        have hne := cutL_ne c r
        cases hcr : cutL c r with
        | nil => exact absurd hcr hne
        | cons x q =>
          rw [hcr] at ih
          rw [List.dropLast_cons_cons, List.map_cons, List.flatten_cons, List.getLast?_cons_cons]
          conv => lhs; rw [ih]
          simp
    · rw [cutL_none hc]; simp
section
variable {w0 : World} {σ : Vw}

/-- The library's two errors are there. -/
def ErrL (w0 : World) : Prop := ∃ tp p tq q, ∀ w, Below w0.heap.size w0 w → w.var? Tryz.prog "strconv.ErrSyntax" = some #[.iface tp p] ∧ w.var? Tryz.prog "strconv.ErrRange" = some #[.iface tq q]
theorem numI_le {s : ByteArray} : -9223372036854775808 ≤ numI s ∧ numI s ≤ 9223372036854775807 := by
  unfold numI
  split
  · rename_i v hv
    unfold Lib.atoiAll at hv
    split at hv
    · cases hv
    · simp only at hv
      split at hv
      · cases hv
      · cases hv
      · rename_i u hu
        split at hv
        · cases hv
        · split at hv
          · cases hv
          · cases hv
            split <;> omega
  · unfold Lib.atoiSat
    split <;> omega
  · omega
theorem impl_numRead (er : ErrL w0) {s : ByteArray} (hs : s.size ≤ 1048576) {R : Value → Vw → Prop} (hR : R (.int .i64 (numI s)) σ) : AC Tryz.prog w0 n_impl_numRead [.string s] σ R := by
  refine ac_impl_numRead ?_
  unfold vc_impl_numRead
  have key : ∀ e : Value, pExtract (.tuple ⟨[.int .i64 (numI s), e]⟩) 0 (fun v2 => pExtract (.tuple ⟨[.int .i64 (numI s), e]⟩) 1 (fun v3 => R v2 σ)) := fun e => by
    rw [pExtract_s rfl, pExtract_s rfl]; exact hR
  refine AC.of_calls is_strconv_Atoi fun w hw => ?_
  obtain ⟨tp, p, tq, q, he⟩ := er
  obtain ⟨e1, e2⟩ := he w hw.bel
  rcases ha : Lib.atoiAll (bl s) with v | _ | _
  · have e : numI s = v := by unfold numI; rw [ha]
    refine (Tryz.strconv_Atoi_ok s (by omega) v ha w).mono ?_
    rintro x w' ⟨rfl, h⟩
    refine ⟨_, rfl, by have := key .nilIface; rw [e] at this; exact this, ?_⟩
    rcases h with rfl | ⟨t, rfl⟩
    · exact Below.refl _ _
    · exact Lib.bytesWorld_below _ _ _
  · have e : numI s = 0 := by unfold numI; rw [ha]
    refine (Any.strconv_Atoi_syntax_var Tryz.laysC172 s (by omega) ha tp p w e1).mono ?_
    rintro x w' ⟨N, rfl, _, _, h⟩
    exact ⟨_, rfl, by simp only [e] at key; exact key _, h⟩
  · have e : numI s = Lib.atoiSat (bl s) := by unfold numI; rw [ha]
    refine (Tryz.strconv_Atoi_range_var s (by omega) ha tq q w e2).mono ?_
    rintro x w' ⟨N, rfl, _, _, h⟩
    exact ⟨_, rfl, by simp only [e] at key; exact key _, h⟩
theorem acc_strs {b cap : Nat} {xs : List ByteArray} (hb : w0.heap.size ≤ b) (hr : σ b = some ⟨t_string, xs.map .string, cap, (0, 0)⟩) (hm : xs.length ≤ cap ∧ cap ≤ 9223372036854775807) (hs : ∀ x, x ∈ xs → x.size ≤ 9223372036854775807) :
    OAcc w0 t_string 1 OStr σ [b] (.slice (some ⟨b, 0, none⟩) xs.length cap) xs := by
  refine ⟨by omega, by simp, .inr ⟨b, cap, xs.map fun s => [Value.string s], List.replicate xs.length [], rfl, hm, hb, by rw [← flat_strs, Nat.mul_one]; exact hr, by simp, by simp, by simp, fun j c x f e1 e2 e3 => ?_⟩⟩
  rw [List.getElem?_map, e2] at e1
  cases e1
  rw [List.getElem?_replicate] at e3
  split at e3
  · cases e3; exact ⟨rfl, rfl, hs x (List.mem_of_getElem? e2)⟩
  · cases e3
theorem strings_SplitA (mx : MaxL w0) {s : ByteArray} {c : UInt8} (hs : s.size ≤ 1000000000) {R : Value → Vw → Prop} (hR : ∀ v F σ', Keeps σ σ' → OAcc w0 t_string 1 OStr σ' F v (cutS c s) → (∀ b, b ∈ F → σ b = none) → R v σ') : AC Tryz.prog w0 n_strings_Split [.string s, .string ⟨#[c]⟩] σ R := by
  refine ⟨is_strings_Split, fun w hw => ?_⟩
  obtain ⟨m, hm⟩ := mx
  refine (Tryz.strings_Split s ⟨#[c]⟩ m w (by omega) (hm w hw.bel) (Nat.le_refl 1)).mono ?_
  rintro e w' ⟨rfl, rfl⟩
  rw [splitB_cutS, countB_len]
  have hn : σ w.heap.size = none := by
    cases h : σ w.heap.size with
    | none => rfl
    | some r => exact absurd (hw.lt h) (Nat.lt_irrefl _)
  have hcl := cutS_len c s
  refine ⟨_, σ.put w.heap.size ⟨t_string, (cutS c s).map .string, (cutS c s).length, (0, 0)⟩, rfl, hR _ [w.heap.size] _ (Keeps.put hn) (acc_strs hw.bel.size put_at ⟨Nat.le_refl _, by omega⟩ fun x hx => ?_) (fun i hi => by rw [List.mem_singleton.1 hi]; exact hn), ?_⟩
  · have := cutS_mem hx; omega
  · exact Aft.row hw _ ⟨t_string, (cutS c s).map .string, (cutS c s).length, (0, 0)⟩ (by simp) (by simp) rfl

end
end Go.Proofs.YtlfnfpdipghdiaaGreatDoor

/- How the program opens a disk: the same: pure. -/
set_option linter.unusedVariables false
set_option linter.unusedSimpArgs false
set_option maxRecDepth 20000
namespace Go.Proofs.YtlfnfpdipghdiaaGreatDoor
open Go Go.Av

theorem parse_dig : ∀ (l : List UInt8) (acc : Nat), (∀ b, b ∈ l → 48 ≤ b.toNat ∧ b.toNat ≤ 57) → (acc + 1) * 10 ^ l.length ≤ 1000000000000000000 → Lib.parseUint10 acc l = .ok (valL l acc)
  | [], _, _, _ => rfl
  | b :: r, acc, h, hl => by
    have hb := h b List.mem_cons_self
    have e : (acc + 1) * 10 ^ (b :: r).length = ((acc + 1) * 10) * 10 ^ r.length := by rw [List.length_cons, Nat.pow_succ, Nat.mul_comm (10 ^ r.length) 10, Nat.mul_assoc]
    rw [e] at hl
    have hp : 1 ≤ 10 ^ r.length := Nat.one_le_pow _ _ (by omega)
    have h1 : (acc + 1) * 10 ≤ 1000000000000000000 := Nat.le_trans (Nat.le_mul_of_pos_right _ hp) hl
    unfold Lib.parseUint10
    rw [if_pos hb, if_neg (by omega), if_neg (by omega)]
    exact parse_dig r _ (fun x hx => h x (List.mem_cons_of_mem _ hx)) (Nat.le_trans (Nat.mul_le_mul_right _ (by omega)) hl)
theorem numI_decN {k : Nat} (h : k ≤ 99999) : numI (decN k) = k := by
  have e : bl (decN k) = decL k := bl_ofL _
  have hl := dec_len5 k h
  have hne : decL k ≠ [] := fun e => by have := (decL_len k).1; rw [e] at this; simp at this
  have hp : Lib.parseMag (decL k) = .ok k := by
    unfold Lib.parseMag
    rw [if_neg hne, parse_dig _ _ (decL_digits k) (by
      have := Nat.pow_le_pow_right (show 0 < 10 by omega) hl
      omega), valL_dec]
  unfold numI
  rw [e]
  cases hd : decL k with
  | nil => exact absurd hd hne
  | cons c r =>
    have hc := decL_digits k c (by rw [hd]; exact List.mem_cons_self)
    have ha : Lib.atoiAll (c :: r) = .ok (k : Int) := by
      unfold Lib.atoiAll
      simp only
      rw [if_neg (by omega), ← hd, hp]
      simp only
      rw [if_neg (by omega), if_neg (by omega), if_neg (by omega)]
    rw [ha]

/-! ### The words of a block -/
theorem cut3 {b x y z : ByteArray} (h : cutS 32 b = [x, y, z]) : b = x ++ ⟨#[32]⟩ ++ y ++ ⟨#[32]⟩ ++ z := by
  have hl : cutL 32 (bl b) = [bl x, bl y, bl z] := by
    have := congrArg (List.map bl) h
    unfold cutS at this
    rw [bl_ofLs'] at this
    exact this
  apply bl_inj
  rw [cut_join _ (bl b) (Nat.le_refl _), hl]
  simp [bl_append]
theorem cut4' {b x y z w : ByteArray} (h : cutS 32 b = [x, y, z, w]) : b = x ++ ⟨#[32]⟩ ++ y ++ ⟨#[32]⟩ ++ z ++ ⟨#[32]⟩ ++ w := by
  have hl : cutL 32 (bl b) = [bl x, bl y, bl z, bl w] := by
    have := congrArg (List.map bl) h
    unfold cutS at this
    rw [bl_ofLs'] at this
    exact this
  apply bl_inj
  rw [cut_join _ (bl b) (Nat.le_refl _), hl]
  simp [bl_append]
/-- A head of any two numbers. -/
def headZ (g n : Int) : ByteArray := ⟨#[67, 32]⟩ ++ decZ g ++ ⟨#[32]⟩ ++ decZ n
def gheadZ (g k n : Int) : ByteArray := ⟨#[72, 32]⟩ ++ decZ g ++ ⟨#[32]⟩ ++ decZ k ++ ⟨#[32]⟩ ++ decZ n
theorem headZ_nat {g : Int} {n : Nat} : headZ g n = headB g n := by unfold headZ headB; rw [decZ_nat]
theorem gheadZ_nat {g : Int} {k n : Nat} : gheadZ g k n = gheadB g k n := by unfold gheadZ gheadB; rw [decZ_nat, decZ_nat]
noncomputable def foundI (b : ByteArray) (slot : Int) : Int × Int :=
  match cutS 32 b with
  | [_, g, n] => if headZ (numI g) (numI n) = b ∧ ((1 ≤ numI g ∧ numI g ≤ 99999) ∧ numI g % 2 = slot) ∧ (0 ≤ numI n ∧ numI n ≤ 5760) then (numI g, numI n) else (0, 0)
  | _ => (0, 0)
theorem cT_app (x : ByteArray) : cTx ++ ⟨#[32]⟩ ++ x = ⟨#[67, 32]⟩ ++ x := by
  apply bl_inj; simp only [bl_append]; rfl
theorem hT_app (x : ByteArray) : hT ++ ⟨#[32]⟩ ++ x = ⟨#[72, 32]⟩ ++ x := by
  apply bl_inj; simp only [bl_append]; rfl
theorem found_eq (b : ByteArray) (slot : Int) : foundI b slot = foundP b slot := by
  unfold foundI foundP
  rcases e : cutS 32 b with _ | ⟨w, _ | ⟨g, _ | ⟨n, _ | ⟨z, r⟩⟩⟩⟩
  · rfl
  · rfl
  · rfl
  · show (if headZ (numI g) (numI n) = b ∧ ((1 ≤ numI g ∧ numI g ≤ 99999) ∧ numI g % 2 = slot) ∧ (0 ≤ numI n ∧ numI n ≤ 5760) then (numI g, numI n) else (0, 0)) = if w = cTx ∧ ((1 ≤ num5 g ∧ num5 g ≤ 99999) ∧ num5 g % 2 = slot) ∧ (0 ≤ num5 n ∧ num5 n ≤ 5760) then (num5 g, num5 n) else (0, 0)
    by_cases hi : headZ (numI g) (numI n) = b ∧ ((1 ≤ numI g ∧ numI g ≤ 99999) ∧ numI g % 2 = slot) ∧ (0 ≤ numI n ∧ numI n ≤ 5760)
    · obtain ⟨h1, h2, h3⟩ := hi
      have hz : headZ (numI g) (numI n) = headB (numI g) (numI n).toNat := by rw [← headZ_nat, Int.toNat_of_nonneg (by omega)]
      have hc := cut_head (gen := numI g) (n := (numI n).toNat) (by omega)
      rw [← hz, h1, e] at hc
      simp only [List.cons.injEq, and_true] at hc
      obtain ⟨c1, c2, c3⟩ := hc
      have e2 : num5 g = numI g := by rw [c2, num5_dec (by omega), ← c2]; omega
      have e3 : num5 n = numI n := by rw [c3, num5_dec (by omega), ← c3]; omega
      rw [if_pos ⟨h1, h2, h3⟩, if_pos (by rw [e2, e3]; exact ⟨c1, h2, h3⟩), e2, e3]
    · rw [if_neg hi]
      by_cases hp : w = cTx ∧ ((1 ≤ num5 g ∧ num5 g ≤ 99999) ∧ num5 g % 2 = slot) ∧ (0 ≤ num5 n ∧ num5 n ≤ 5760)
      · exfalso
        obtain ⟨h1, h2, h3⟩ := hp
        obtain ⟨g1, _, g3⟩ := num5_of (s := g) rfl (by omega)
        obtain ⟨n1, _, n3⟩ := num5_of (s := n) rfl (by omega)
        have e2 : numI g = num5 g := by conv => lhs; rw [g1]
                                        rw [numI_decN (by omega)]; omega
        have e3 : numI n = num5 n := by conv => lhs; rw [n1]
                                        rw [numI_decN (by omega)]; omega
        refine hi ⟨?_, by rw [e2]; exact h2, by rw [e3]; exact h3⟩
        have hb := cut3 e
        unfold headZ
        rw [e2, e3, decZ_of (by omega), decZ_of (by omega), ← g1, ← n1]
        conv => rhs; rw [hb, h1]
        rw [cT_app]
      · rw [if_neg hp]
  · rfl
theorem dec_back {k : Nat} (h : (decN k).size ≤ 5) : k ≤ 99999 := by
  have hl : (decL k).length ≤ 5 := by rw [← size_ofL]; exact h
  have h1 := valL_lt (decL k) 0 (decL_digits k)
  rw [valL_dec] at h1
  have := Nat.pow_le_pow_right (show 0 < 10 by omega) hl
  omega
noncomputable def likeI (b : ByteArray) (gen : Int) : Bool :=
  match cutS 32 b with
  | [w, g, _, _] => decide (w = hT ∧ (decZ (numI g) = g ∧ g.size ≤ 5) ∧ gen ≤ numI g)
  | _ => false
theorem like_eq (b : ByteArray) {gen : Int} (hg : 1 ≤ gen) : likeI b gen = likeP b gen := by
  unfold likeI likeP
  rcases e : cutS 32 b with _ | ⟨w, _ | ⟨g, _ | ⟨x, _ | ⟨y, _ | ⟨z, r⟩⟩⟩⟩⟩
  · rfl
  · rfl
  · rfl
  · rfl
  · show decide (w = hT ∧ (decZ (numI g) = g ∧ g.size ≤ 5) ∧ gen ≤ numI g) = decide (w = hT ∧ gen ≤ num5 g)
    refine decide_eq_decide.2 ⟨fun ⟨h1, ⟨h2, h3⟩, h4⟩ => ⟨h1, ?_⟩, fun ⟨h1, h2⟩ => ?_⟩
    · have : g = decN (numI g).toNat := by conv => lhs; rw [← h2, decZ_of (by omega)]
      have hk : (numI g).toNat ≤ 99999 := dec_back (by rw [← this]; exact h3)
      rw [this, num5_dec hk]; omega
    · obtain ⟨g1, g2, g3⟩ := num5_of (s := g) rfl (by omega)
      have e2 : numI g = num5 g := by conv => lhs; rw [g1]
                                      rw [numI_decN (by omega)]; omega
      exact ⟨h1, ⟨by rw [e2, decZ_of (by omega), ← g1], g2⟩, by omega⟩
  · rfl

/-! ### Groups -/
noncomputable def textI (B : List ByteArray) (n : Nat) : Nat → Nat → ByteArray → Option ByteArray
  | 0, _, out => if out.size = n then some out else none
  | m + 1, a, out => if (at0 B a).size < 2 ∨ (bl (at0 B a)).head? ≠ some 68 then none else textI B n m (a + 1) (out ++ (at0 B a).extract 1 (at0 B a).size)
theorem text_eq {B : List ByteArray} {n : Nat} (hB : ∀ i, (at0 B i).size ≤ 64) : ∀ (m a : Nat) (out : ByteArray), out.size + 63 * m < n + 63 → textI B n m a out = textP B 1 n m a out
  | 0, _, _, _ => rfl
  | m + 1, a, out, h => by
    unfold textI textP
    rw [if_pos (show out.size < n by omega)]
    have hc : ((at0 B a).size < 2 ∨ (bl (at0 B a)).head? ≠ some 68) ↔ ((at0 B a).size ≤ 1 ∨ (1 = 1 ∧ (bl (at0 B a)).head? ≠ some 68)) := by
      refine or_congr ⟨fun h => by omega, fun h => by omega⟩ ⟨fun h => ⟨rfl, h⟩, fun h => h.2⟩
    by_cases h1 : (at0 B a).size < 2 ∨ (bl (at0 B a)).head? ≠ some 68
    · rw [if_pos h1, if_pos (hc.1 h1)]
    · rw [if_neg h1, if_neg fun h => h1 (hc.2 h)]
      have := hB a
      exact text_eq hB m _ _ (by rw [ByteArray.size_append, ByteArray.size_extract]; omega)
def lastW (b : ByteArray) : ByteArray := ((cutS 32 b).getLast?).getD ⟨#[]⟩
noncomputable def groupI (B : List ByteArray) (gen : Int) (k a : Nat) : Option ByteArray :=
  if 12 ≤ a then none
  else if gheadZ gen k (numI (lastW (at0 B (2 + a)))) = at0 B (2 + a) ∧ (0 ≤ numI (lastW (at0 B (2 + a))) ∧ numI (lastW (at0 B (2 + a))) ≤ 600) ∧ a + (1 + lenB (numI (lastW (at0 B (2 + a))))) ≤ 12 then
    textI B (numI (lastW (at0 B (2 + a)))).toNat (lenB (numI (lastW (at0 B (2 + a))))) (3 + a) ⟨#[]⟩
  else none
theorem group_eq {B : List ByteArray} {gen : Int} {k a : Nat} (hB : ∀ i, (at0 B i).size ≤ 64) (hg : 1 ≤ gen ∧ gen ≤ 99999) (hk : k ≤ 99999) : groupP B gen k a = (groupI B gen k a).map fun g => (g, blkN g) := by
  unfold groupI groupP
  by_cases ha : 12 ≤ a
  · rw [if_pos ha, if_pos ha]; rfl
  rw [if_neg ha, if_neg ha]
  have tx : ∀ {n : Int}, 0 ≤ n → (textP B 1 n.toNat (lenB n) (3 + a) ⟨#[]⟩).map (fun s => (s, 1 + lenB n)) = (textI B n.toNat (lenB n) (3 + a) ⟨#[]⟩).map fun g => (g, blkN g) := fun {n} hn => by
    rw [text_eq hB _ _ _ (by rw [nil_size]; unfold lenB; omega)]
    cases h : textP B 1 n.toNat (lenB n) (3 + a) ⟨#[]⟩ with
    | none => rfl
    | some t =>
      have := textP_size _ _ _ h
      simp only [Option.map_some]
      rw [blk_lenB, this, Int.toNat_of_nonneg hn]
  by_cases hi : gheadZ gen k (numI (lastW (at0 B (2 + a)))) = at0 B (2 + a) ∧ (0 ≤ numI (lastW (at0 B (2 + a))) ∧ numI (lastW (at0 B (2 + a))) ≤ 600) ∧ a + (1 + lenB (numI (lastW (at0 B (2 + a))))) ≤ 12
  · rw [if_pos hi]
    obtain ⟨h1, h2, h3⟩ := hi
    generalize numI (lastW (at0 B (2 + a))) = n at *
    have hz : gheadZ gen k n = gheadB gen k n.toNat := by rw [← gheadZ_nat, Int.toNat_of_nonneg (by omega)]
    have hc := cut_ghead (gen := gen) (k := k) (n := n.toNat) (by omega)
    rw [← hz, h1] at hc
    rw [hc]
    simp only
    have e1 : num5 (decN gen.toNat) = gen := by rw [num5_dec (by omega)]; omega
    have e2 : num5 (decN n.toNat) = n := by rw [num5_dec (by omega)]; omega
    rw [e1, e2, num5_dec hk, if_pos ⟨⟨⟨trivial, rfl⟩, rfl⟩, h2, h3⟩]
    exact tx h2.1
  · rw [if_neg hi]
    split
    · rename_i w g m n e
      by_cases hp : ((w = hT ∧ num5 g = gen) ∧ num5 m = k) ∧ (0 ≤ num5 n ∧ num5 n ≤ 600) ∧ a + (1 + lenB (num5 n)) ≤ 12
      · exfalso
        obtain ⟨⟨⟨p1, p2⟩, p3⟩, p4, p5⟩ := hp
        have hl : lastW (at0 B (2 + a)) = n := by unfold lastW; rw [e]; rfl
        obtain ⟨g1, _, g3⟩ := num5_of p2 (by omega)
        obtain ⟨m1, _, m3⟩ := num5_of p3 (by omega)
        obtain ⟨n1, _, n3⟩ := num5_of (s := n) rfl (by omega)
        have e3 : numI n = num5 n := by conv => lhs; rw [n1]
                                        rw [numI_decN (by omega)]; omega
        apply hi
        rw [hl, e3]
        refine ⟨?_, p4, p5⟩
        have hb := cut4' e
        unfold gheadZ
        rw [decZ_of (show 0 ≤ gen by omega), decZ_of (show (0 : Int) ≤ (k : Nat) by omega), decZ_of (show 0 ≤ num5 n by omega), ← g1, ← n1, ← m1]
        conv => rhs; rw [hb, p1]
        rw [hT_app]
      · rw [if_neg hp]; rfl
    · rfl
end Go.Proofs.YtlfnfpdipghdiaaGreatDoor
