/- The plain side, part 5: more operations at known values. -/
import Derived.Test.YtkndffhcncmbjaaB4
set_option linter.unusedVariables false
set_option linter.unusedSimpArgs false
namespace Go.Av
open Go Go.RowKit IntWalk

section
variable {P : Program} {w0 : World} {σ σ' : Vw}
theorem pConv_s {k k' : IntKind} {n : Int} {K : Value → Prop} : pConvInt k (.int k' n) K ↔ K (.int k (k.wrap n)) :=
  ⟨fun ⟨_, _, h, hK⟩ => by cases h; exact hK, fun h => ⟨_, _, rfl, h⟩⟩
theorem pConv_u8 {k' : IntKind} {n : Int} {K : Value → Prop} (h : 0 ≤ n ∧ n ≤ 255) : pConvInt .u8 (.int k' n) K ↔ K (.int .u8 n) := by rw [pConv_s, u8_in n h]
theorem pConv_i64 {k' : IntKind} {n : Int} {K : Value → Prop} (h : -9223372036854775808 ≤ n ∧ n ≤ 9223372036854775807) : pConvInt .i64 (.int k' n) K ↔ K (.int .i64 n) := by rw [pConv_s, i64_in n h]
theorem pConv_u64 {k' : IntKind} {n : Int} {K : Value → Prop} (h : 0 ≤ n ∧ n ≤ 18446744073709551615) : pConvInt .u64 (.int k' n) K ↔ K (.int .u64 n) := by rw [pConv_s, u64_in n h]
theorem pBin_rem {T : Nat} {k : IntKind} {a b : Int} {K : Value → Prop} (h : 0 ≤ a ∧ 0 < b) : pBin P T .rem (.int k a) (.int k b) K ↔ K (.int k (a % b)) :=
  pBin_i (by simp only [aint]; rw [if_neg (by omega), Int.tmod_eq_emod_of_nonneg h.1])
theorem pBin_quo {T : Nat} {a b : Int} {K : Value → Prop} (h : 0 ≤ a ∧ a ≤ 9223372036854775807 ∧ 0 < b) : pBin P T .quo (.int .i64 a) (.int .i64 b) K ↔ K (.int .i64 (a / b)) :=
  pBin_i (by simp only [aint]; rw [if_neg (by omega), i64_quo a b (by omega)])
theorem pBin_cat {T : Nat} {a b : ByteArray} {K : Value → Prop} (h : a.size + b.size ≤ 9223372036854775807) : pBin P T .add (.string a) (.string b) K ↔ K (.string (a ++ b)) :=
  pBin_s (by
    have e : IntKind.i64.max = 9223372036854775807 := by decide
    simp only [astr, e]
    rw [if_neg (by omega)])
theorem pMin_s {k : IntKind} {a b : Int} {K : Value → Prop} : pMin (.int k a) (.int k b) K ↔ K (.int k (min a b)) := by
  have e : (if b < a then b else a) = min a b := by split <;> omega
  exact ⟨fun ⟨_, _, _, h1, h2, hK⟩ => by cases h1; cases h2; rw [e] at hK; exact hK, fun hK => ⟨_, _, _, rfl, rfl, by rw [e]; exact hK⟩⟩
theorem pMax_s {k : IntKind} {a b : Int} {K : Value → Prop} : pMax (.int k a) (.int k b) K ↔ K (.int k (max a b)) := by
  have e : (if b > a then b else a) = max a b := by split <;> omega
  exact ⟨fun ⟨_, _, _, h1, h2, hK⟩ => by cases h1; cases h2; rw [e] at hK; exact hK, fun hK => ⟨_, _, _, rfl, rfl, by rw [e]; exact hK⟩⟩
theorem pExtract_s {vs : List Value} {i : Nat} {v : Value} {K : Value → Prop} (h : vs[i]? = some v) : pExtract (.tuple ⟨vs⟩) i K ↔ K v := by
  obtain ⟨hl, he⟩ := List.getElem?_eq_some_iff.1 h
  exact ⟨fun ⟨_, e, hl', hK⟩ => by cases e; rw [he] at hK; exact hK, fun hK => ⟨_, rfl, hl, by rw [he]; exact hK⟩⟩
theorem pIndexStr_s {s : ByteArray} {j : Nat} {K : Value → Prop} (h : j < s.size) (hK : K (.int .u8 ((s[j]'h).toNat : Int))) : pIndexStr (.string s) (.int .i64 j) K :=
  ⟨s, .i64, j, rfl, rfl, by omega, h, hK⟩
theorem pSliceStr_s {s : ByteArray} {lo hi : Option Value} {l h : Int} {K : Value → Prop} (hl : boundOf 0 lo = some l) (hh : boundOf s.size hi = some h) (h0 : 0 ≤ l ∧ l ≤ h ∧ h ≤ s.size) (hK : K (.string (s.extract l.toNat h.toNat))) : pSliceStr (.string s) lo hi K :=
  ⟨s, l, h, rfl, hl, hh, h0.1, h0.2.1, h0.2.2, hK⟩
theorem pLoad_row {b o n : Nat} {r : Row} {A c C : List Value} {K : (Nat → Value) → Prop} (hb : w0.heap.size ≤ b) (hr : σ b = some r) (hc : r.cells = A ++ (c ++ C)) (hA : A.length = o) (hn : c.length = n)
    (hK : ∀ g : Nat → Value, expl g 0 n = c → K g) : pLoad w0 n (.pointer (some ⟨b, o, none⟩)) σ K := by
  refine ⟨_, fun i => c.getD i undef, rfl, fun j hj => ?_, hK _ ?_⟩
  · rw [addr_add, get_row hb hr, hc, List.getElem?_append_right (by omega), List.getElem?_append_left (by omega)]
    rw [show o + j - A.length = j by omega]
    simp only [List.getD_eq_getElem?_getD, List.getElem?_eq_getElem (show j < c.length by omega), Option.getD_some]
  · apply List.ext_getElem?
    intro i
    by_cases hi : i < n
    · rw [expl_get _ _ _ _ hi, Nat.zero_add, List.getD_eq_getElem?_getD, List.getElem?_eq_getElem (by omega)]; rfl
    · rw [List.getElem?_eq_none (by rw [length_expl]; omega), List.getElem?_eq_none (by omega)]
end
end Go.Av
