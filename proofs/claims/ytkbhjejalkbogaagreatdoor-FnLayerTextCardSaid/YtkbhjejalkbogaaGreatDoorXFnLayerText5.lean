/- The law FnLayerText holds: it returns true, and the input reads as it did. No condition. This is part 5 of 5 of its proof. -/
import Derived.Test.YtkbhjejalkbogaaGreatDoorXFnLayerText4
import Derived.Lib.AtoiAll
import Derived.Lib.AtoiErrMem
import Derived.Test.YtkbhjejalkbogaaGreatDoorRows
import Derived.WalkKit
import Derived.ProofKit
import Derived.OpenShut
import Derived.ShutString
import Derived.ChangeOld
import Derived.Below
import Derived.Carry
import Derived.SizedLaws
import Derived.LaidMore
import Derived.Lay
import Derived.MakeChecks
import Derived.Stop.Joined
import Derived.HandedShaped
import Derived.Shelf.Vars
import Derived.SevenTiedAt
import Derived.Stop.LaidErr
import Derived.LaidLaws
import Derived.Lib.LaidTab
import Derived.WalkSmall
import Derived.Test.YtkbhjejalkbogaaGreatDoorCards
import Derived.Test.YtkbhjejalkbogaaGreatDoorTie

/- strings.Builder in a view: a text is written. -/
set_option linter.unusedVariables false
set_option linter.unusedSimpArgs false
namespace Go.Proofs.YtkbhjejalkbogaaGreatDoor
open Go Go.Av Go.RowKit

/-- A builder in rows of our own, and the bytes that it holds. -/
def BV (w0 : World) (σ : Vw) (b : Nat) (F : List Nat) (bs : List Value) : Prop :=
  w0.heap.size ≤ b ∧ ∃ p v, (p = .pointer none ∨ p = .pointer (some ⟨b, 0, none⟩)) ∧ σ b = some ⟨Tryz.laysB_ren.t 72, [p, v], 2, (0, 0)⟩ ∧
    ((v = .slice none 0 0 ∧ bs = [] ∧ F = [b]) ∨ ∃ q cap, v = .slice (some ⟨q, 0, none⟩) bs.length cap ∧ w0.heap.size ≤ q ∧ q ≠ b ∧ σ q = some ⟨Tryz.laysB_ren.t 5, bs, cap, (0, 0)⟩ ∧ bs.length ≤ cap ∧ cap ≤ maxLen ∧ F = [b, q])

section
variable {w0 : World} {σ : Vw}

theorem BV.new {b : Nat} (hb : w0.heap.size ≤ b) : BV w0 (σ.put b ⟨Tryz.laysB_ren.t 72, [.pointer none, .slice none 0 0], 2, (0, 0)⟩) b [b] [] :=
  ⟨hb, _, _, .inl rfl, put_at, .inl ⟨rfl, rfl, rfl⟩⟩
theorem BV.frame {σ' : Vw} {b : Nat} {F : List Nat} {bs : List Value} (h : BV w0 σ b F bs) (hF : ∀ i, i ∈ F → σ' i = σ i) : BV w0 σ' b F bs := by
  obtain ⟨hb, p, v, hp, hr, ⟨rfl, rfl, rfl⟩ | ⟨q, cap, rfl, h1, h2, h3, h4, h5, rfl⟩⟩ := h
  · exact ⟨hb, p, _, hp, (hF b (by simp)).trans hr, .inl ⟨rfl, rfl, rfl⟩⟩
  · exact ⟨hb, p, _, hp, (hF b (by simp)).trans hr, .inr ⟨q, cap, rfl, h1, h2, (hF q (by simp)).trans h3, h4, h5, rfl⟩⟩
theorem BV.dom {b : Nat} {F : List Nat} {bs : List Value} (h : BV w0 σ b F bs) : ∀ i, i ∈ F → w0.heap.size ≤ i ∧ σ i ≠ none := by
  obtain ⟨hb, p, v, hp, hr, ⟨rfl, rfl, rfl⟩ | ⟨q, cap, rfl, h1, h2, h3, h4, h5, rfl⟩⟩ := h
  · intro i hi; rw [List.mem_singleton.1 hi]; exact ⟨hb, by rw [hr]; simp⟩
  · intro i hi
    simp at hi
    rcases hi with rfl | rfl
    · exact ⟨hb, by rw [hr]; simp⟩
    · exact ⟨h1, by rw [h3]; simp⟩

theorem write_view {b : Nat} {F : List Nat} {bs : List Value} {s : ByteArray} (h : BV w0 σ b F bs) (hlen : bs.length + s.size ≤ 140737488355328) {R : Value → Vw → Prop}
    (hR : ∀ F' σ', KeepsBut F σ σ' → BV w0 σ' b F' (bs ++ Lib.strCells s) → (∀ i, i ∈ F' → i ∈ F ∨ σ i = none) → R (.tuple ⟨[.int .i64 s.size, .nilIface]⟩) σ') :
    AC Tryz.prog w0 n_p_strings_Builder_WriteString [.pointer (some ⟨b, 0, none⟩), .string s] σ R := by
  refine ⟨is_p_strings_Builder_WriteString, fun w hw => ?_⟩
  obtain ⟨hb, p, v, hp, hr, hv⟩ := h
  have hbk : w.heap[b]? = some (.cells #[p, v] (Tryz.laysB_ren.t 72) (0, 0)) := by
    obtain ⟨_, cur, hc, hpre, hcap, _⟩ := hw.row b _ hr
    simp only at hc hpre hcap
    have hl : cur.toList = [p, v] := by
      obtain ⟨t, ht⟩ := hpre
      have := congrArg List.length ht
      simp only [List.length_append, List.length_cons, List.length_nil, Array.length_toList, hcap] at this
      have ht0 : t = [] := List.eq_nil_of_length_eq_zero (by omega)
      rw [ht0] at ht
      simpa using ht.symm
    have hc2 : cur = #[p, v] := by apply Array.ext'; simpa using hl
    rw [← hc2]; exact hc
  have hown : w.ownsRow w0.heap.size (Tryz.laysB_ren.t 5) 1 v bs.length bs ∧ v.ownBlock ≠ some b ∧ (∀ i, v.ownBlock = some i → i ∈ F) ∧ b ∈ F := by
    rcases hv with ⟨rfl, rfl, rfl⟩ | ⟨q, cap, rfl, h1, h2, h3, h4, h5, rfl⟩
    · exact ⟨⟨rfl, .inl ⟨rfl, rfl⟩⟩, nofun, nofun, by simp⟩
    · obtain ⟨_, cur, hc, hpre, hcap, _⟩ := hw.row q _ h3
      simp only at hc hpre hcap
      refine ⟨⟨by simp, .inr ⟨q, cap, cur, rfl, h1, hc, h4, h5, by omega, ?_⟩⟩, fun e => h2 (by cases e; rfl), fun i e => by cases e; simp, by simp⟩
      have := List.prefix_iff_eq_take.1 hpre
      rw [Nat.mul_one]; exact this.symm
  obtain ⟨hown, hne, hin, hbF⟩ := hown
  refine (Tryz.write_exact w0.heap.size b p v bs s w hp hb hbk hown hne hlen hw.bel.size).mono ?_
  rintro e w' ⟨rfl, v', hbk', hown', hne', hplace, hrest, hbel, hsize⟩
  have hlt : b < w.heap.size := hw.lt hr
  -- the new view
  obtain ⟨hl', hv'⟩ := hown'
  have key : ∀ (σ' : Vw) (F' : List Nat), σ' b = some ⟨Tryz.laysB_ren.t 72, [.pointer (some ⟨b, 0, none⟩), v'], 2, (0, 0)⟩ → BV w0 σ' b F' (bs ++ Lib.strCells s) →
      (∀ i, i ≠ b → v'.ownBlock ≠ some i → σ' i = if v.ownBlock = some i then none else σ i) → (∀ g, v'.ownBlock = some g → ∃ cap cur, σ' g = some ⟨Tryz.laysB_ren.t 5, bs ++ Lib.strCells s, cap, (0, 0)⟩ ∧ w0.heap.size ≤ g ∧ w'.heap[g]? = some (.cells cur (Tryz.laysB_ren.t 5) (0, 0)) ∧ cur.size = cap ∧ (bs ++ Lib.strCells s) <+: cur.toList) →
      (∀ i, i ∈ F' → i = b ∨ v'.ownBlock = some i) → ∃ v σ', (Ending.returned (.tuple #[.int .i64 s.size, .nilIface])) = .returned v ∧ R v σ' ∧ Aft w0 σ w σ' w' := by
    intro σ' F' hσb hBV hσo hσg hF'
    have hgF : ∀ i, v'.ownBlock = some i → i ∈ F ∨ w.heap.size ≤ i := fun i hi => by
      rcases hplace with h | h
      · exact .inl (hin i (by rw [← h]; exact hi))
      · exact .inr (h i hi)
    have hnone : ∀ i, w.heap.size ≤ i → σ i = none := fun i hi => by
      cases hs : σ i with
      | none => rfl
      | some r => exact absurd (hw.lt hs) (by omega)
    refine ⟨_, σ', rfl, hR F' σ' (fun i r hi hiF => ?_) hBV (fun i hi => ?_), ⟨⟨hw.bel.trans hbel, fun i r hi => ?_⟩, hsize, fun i hi hn => ?_, fun i r hi => ?_⟩⟩
    · have h1 : i ≠ b := fun e => hiF (e ▸ hbF)
      have h2 : v'.ownBlock ≠ some i := fun e => by
        rcases hgF i e with h | h
        · exact hiF h
        · rw [hnone i h] at hi; cases hi
      rw [hσo i h1 h2, if_neg (fun e => hiF (hin i e))]; exact hi
    · rcases hF' i hi with rfl | h
      · exact .inl hbF
      · rcases hgF i h with h | h
        · exact .inl h
        · exact .inr (hnone i h)
    · by_cases h1 : i = b
      · subst h1
        rw [hσb] at hi; cases hi
        exact ⟨hb, _, hbk', by simp, by simp, by simp⟩
      · by_cases h2 : v'.ownBlock = some i
        · obtain ⟨cap, cur, q1, q2, q3, q4, q5⟩ := hσg i h2
          rw [q1] at hi; cases hi
          exact ⟨q2, cur, q3, q5, q4, by simp⟩
        · rw [hσo i h1 h2] at hi
          split at hi
          · cases hi
          · rename_i h3
            obtain ⟨g1, cur, g2, g3⟩ := hw.row i r hi
            exact ⟨g1, cur, (hrest i (hw.lt hi) h1 h3).trans g2, g3⟩
    · have h1 : i ≠ b := fun e => by rw [e, hr] at hn; cases hn
      refine hrest i hi h1 fun e => ?_
      rcases hv with ⟨rfl, _⟩ | ⟨q, cap, rfl, _, _, h3, _⟩
      · cases e
      · cases e; rw [h3] at hn; cases hn
    · by_cases h1 : i = b
      · exact .inl (by rw [h1, hr]; simp)
      · by_cases h2 : v'.ownBlock = some i
        · rcases hgF i h2 with h | h
          · refine .inl ?_
            rcases hv with ⟨rfl, _, rfl⟩ | ⟨q, cap, rfl, _, _, h3, _, _, rfl⟩
            · exact absurd (List.mem_singleton.1 h) h1
            · simp at h
              rcases h with h | h
              · exact absurd h h1
              · rw [h, h3]; simp
          · exact .inr h
        · rw [hσo i h1 h2] at hi
          split at hi
          · cases hi
          · exact .inl (by rw [hi]; simp)
  rcases hv' with ⟨rfl, hn⟩ | ⟨g, cap, cur, rfl, q1, q2, q3, q4, q5, q6⟩
  · have hz : bs ++ Lib.strCells s = [] := List.eq_nil_of_length_eq_zero (by omega)
    refine key (fun i => if i = b then some ⟨Tryz.laysB_ren.t 72, [.pointer (some ⟨b, 0, none⟩), .slice none 0 0], 2, (0, 0)⟩ else if v.ownBlock = some i then none else σ i) [b] (by simp) ?_ (fun i h1 _ => by simp [h1]) nofun (fun i hi => .inl (List.mem_singleton.1 hi))
    exact ⟨hb, _, _, .inr rfl, by simp, .inl ⟨rfl, hz, rfl⟩⟩
  · have hgb : g ≠ b := fun e => hne' (by rw [e]; rfl)
    have hpre : (bs ++ Lib.strCells s) <+: cur.toList := by
      rw [Nat.mul_one] at q6
      rw [← q6]; exact List.take_prefix _ _
    refine key (fun i => if i = b then some ⟨Tryz.laysB_ren.t 72, [.pointer (some ⟨b, 0, none⟩), .slice (some ⟨g, 0, none⟩) (bs ++ Lib.strCells s).length cap], 2, (0, 0)⟩ else if g = i then some ⟨Tryz.laysB_ren.t 5, bs ++ Lib.strCells s, cap, (0, 0)⟩ else if v.ownBlock = some i then none else σ i) [b, g] (by simp) ?_ (fun i h1 h2 => ?_) (fun g' hg' => ?_) (fun i hi => ?_)
    · exact ⟨hb, _, _, .inr rfl, by simp, .inr ⟨g, cap, rfl, q1, hgb, by simp [hgb], q3, q4, rfl⟩⟩
    · have : ¬ g = i := fun e => h2 (by rw [e]; rfl)
      simp [h1, this]
    · have : g = g' := by cases hg'; rfl
      subst this
      exact ⟨cap, cur, by simp [hgb], q1, q2, by omega, hpre⟩
    · simp at hi
      rcases hi with h | h
      · exact .inl h
      · exact .inr (by rw [h]; rfl)
end
end Go.Proofs.YtkbhjejalkbogaaGreatDoor

/- strings.Builder: its text is taken. -/
set_option linter.unusedVariables false
set_option linter.unusedSimpArgs false
namespace Go.Proofs
open Go.Shelf Go.RowKit

set_option maxHeartbeats 4000000 in
set_option maxRecDepth 100000 in
theorem Tryz.string_exact (b g cap : Nat) (p : Value) (l : List UInt8) (cur : Array Value) (w : World) (h0 : l ≠ []) (hbk : w.heap[b]? = some (.cells #[p, .slice (some ⟨g, 0, none⟩) l.length cap] (Tryz.lays169_ren.t 72) (0, 0))) (hg : w.heap[g]? = some (.cells cur (Tryz.lays169_ren.t 5) (0, 0)))
    (hnc : l.length ≤ cap) (hcm : cap ≤ maxLen) (hcs : cur.size = cap) (htake : cur.toList.take l.length = Lib.byteCells l) :
    Calls Tryz.prog (Tryz.lays169_ren.f 169) #[.pointer (some ⟨b, 0, none⟩)] w fun e w' => e = .returned (.string ⟨l.toArray⟩) ∧ w' = w.drew.freeze ⟨g, 0, none⟩ l.length := by
  have L := Tryz.lays169
  have X := Tryz.Builder_Extra_169
  have hl0 : l.length ≠ 0 := by simpa using h0
  have c1 : w.drew.cell? ⟨b, 1, none⟩ = some (.slice (some ⟨g, 0, none⟩) l.length cap) := by
    have : w.drew.heap[b]? = some (.cells #[p, .slice (some ⟨g, 0, none⟩) l.length cap] (Tryz.lays169_ren.t 72) (0, 0)) := hbk
    rw [Lib.cell_of_heap this]; rfl
  have hSD : (Builtin.unsafeSliceData_ #[(Tryz.lays169_ren.t 37)] (Tryz.lays169_ren.t 127) #[.slice (some ⟨g, 0, none⟩) l.length cap]).run Tryz.prog w.drew = .ok (.pointer (some ⟨g, 0, none⟩)) w.drew :=
    Lib.run_unsafeSliceData_row _ _ _ _ _ _ (by omega)
  have hown : w.ownsRow 0 (Tryz.lays169_ren.t 5) 1 (.slice (some ⟨g, 0, none⟩) l.length cap) l.length (Lib.byteCells l) := ⟨by simp [Lib.byteCells], .inr ⟨g, cap, cur, rfl, Nat.zero_le _, hg, hnc, hcm, by omega, by rw [Nat.mul_one]; exact htake⟩⟩
  have hUS : (Builtin.unsafeString_ #[(Tryz.lays169_ren.t 127), (Tryz.lays169_ren.t 3)] (Tryz.lays169_ren.t 9) #[.pointer (some ⟨g, 0, none⟩), .int .i64 l.length]).run Tryz.prog w.drew = .ok (.string ⟨l.toArray⟩) (w.drew.freeze ⟨g, 0, none⟩ l.length) := by
    refine Lib.run_unsafeString_row w.drew (Tryz.lays169_ren.t 127) (Tryz.lays169_ren.t 3) (Tryz.lays169_ren.t 9) (Tryz.lays169_ren.t 5) L.t127 X.cellsByte g cur.size (by have hg' : w.drew.heap[g]? = some (.cells cur (Tryz.lays169_ren.t 5) (0, 0)) := hg; simp [World.shape?, hg']) l h0 (by omega) (by unfold maxLen at hcm; omega) ?_
    intro j x hx
    have := hown.cells (g := g) rfl j (.int .u8 x.toNat) (by simp [Lib.byteCells, hx])
    exact this
  have mixed := L.mixed
  have t72 := L.t72; have a72 := L.a72; have z72 := L.z72; have v72 := L.v72; have u72 := run_underlying L.t72
  have t70 := L.t70; have a70 := L.a70; have z70 := L.z70; have v70 := L.v70; have u70 := run_underlying L.t70
  have t37 := L.t37; have a37 := L.a37; have z37 := L.z37; have v37 := L.v37; have u37 := run_underlying L.t37
  have t127 := L.t127; have a127 := L.a127; have z127 := L.z127; have v127 := L.v127; have u127 := run_underlying L.t127
  have t3 := L.t3; have a3 := L.a3; have z3 := L.z3; have v3 := L.v3; have u3 := run_underlying L.t3
  have t9 := L.t9; have a9 := L.a9; have z9 := L.z9; have v9 := L.v9; have u9 := run_underlying L.t9
  have t5 := X.t5; have a5 := X.a5; have z5 := X.z5; have v5 := X.v5; have u5 := run_underlying X.t5
  go_enter L.f169, Body.n169_ntmps Tryz.lays169_ren
  go_wp2
  go_region_o
  all_goals (go_wp2; go_ret; exact ⟨rfl, rfl⟩)
end Go.Proofs
namespace Go.Proofs.YtkbhjejalkbogaaGreatDoor
open Go Go.Av Go.RowKit

section
variable {w0 : World} {σ : Vw}

theorem heap_two {w : World} {b T : Nat} {p v : Value} (hw : Sat w0 σ w) (hr : σ b = some ⟨T, [p, v], 2, (0, 0)⟩) : w.heap[b]? = some (.cells #[p, v] T (0, 0)) := by
  obtain ⟨_, cur, hc, hpre, hcap, _⟩ := hw.row b _ hr
  simp only at hc hpre hcap
  have hl : cur.toList = [p, v] := by
    obtain ⟨t, ht⟩ := hpre
    have := congrArg List.length ht
    simp only [List.length_append, List.length_cons, List.length_nil, Array.length_toList, hcap] at this
    have ht0 : t = [] := List.eq_nil_of_length_eq_zero (by omega)
    rw [ht0] at ht
    simpa using ht.symm
  have hc2 : cur = #[p, v] := by apply Array.ext'; simpa using hl
  rw [← hc2]; exact hc

theorem string_view {b : Nat} {F : List Nat} {l : List UInt8} (h : BV w0 σ b F (Lib.byteCells l)) {R : Value → Vw → Prop} (hR : ∀ σ', KeepsBut F σ σ' → R (.string ⟨l.toArray⟩) σ') :
    AC Tryz.prog w0 n_p_strings_Builder_String [.pointer (some ⟨b, 0, none⟩)] σ R := by
  refine ⟨is_p_strings_Builder_String, fun w hw => ?_⟩
  obtain ⟨hb, p, v, hp, hr, hv⟩ := h
  have hbk := heap_two hw hr
  have full : ∀ {w' : World}, Below w.heap.size w w' → R (.string ⟨l.toArray⟩) σ → ∃ u σ', (Ending.returned (.string ⟨l.toArray⟩)) = .returned u ∧ R u σ' ∧ Aft w0 σ w σ' w' := fun k hRσ => ⟨_, σ, rfl, hRσ, Aft.below hw k⟩
  have hRσ := hR σ (KeepsBut.refl _ _)
  cases l with
  | nil =>
    rcases hv with ⟨rfl, _, rfl⟩ | ⟨q, cap, rfl, h1, h2, h3, h4, h5, rfl⟩
    · refine (Any.Builder_String_nil Tryz.lays169 Tryz.Builder_Extra_169 w.heap.size b p w hbk).mono ?_
      rintro e w' ⟨rfl, k⟩
      exact full k hRσ
    · obtain ⟨_, cur, hc, hpre, hcap, _⟩ := hw.row q _ h3
      simp only at hc hpre hcap
      by_cases hc0 : cap = 0
      · subst hc0
        refine (Any.Builder_String_noroom Tryz.lays169 Tryz.Builder_Extra_169 w.heap.size b q p cur w (Nat.le_refl _) hbk hc).mono ?_
        rintro e w' ⟨rfl, k⟩
        exact full k hRσ
      · refine (Any.Builder_String_room Tryz.lays169 Tryz.Builder_Extra_169 w.heap.size b q cap p w hc0 hbk).mono ?_
        rintro e w' ⟨rfl, k⟩
        exact full k hRσ
  | cons x l =>
    rcases hv with ⟨_, h0, _⟩ | ⟨q, cap, rfl, h1, h2, h3, h4, h5, rfl⟩
    · simp [Lib.byteCells] at h0
    obtain ⟨_, cur, hc, hpre, hcap, _⟩ := hw.row q _ h3
    simp only at hc hpre hcap
    have hlen : (Lib.byteCells (x :: l)).length = (x :: l).length := by simp [Lib.byteCells]
    rw [hlen] at hbk h4
    refine (Tryz.string_exact b q cap p (x :: l) cur w (by simp) hbk hc h4 h5 (by omega) ?_).mono ?_
    · have := List.prefix_iff_eq_take.1 hpre
      rw [hlen] at this; exact this.symm
    rintro e w' ⟨rfl, rfl⟩
    have hk : ∀ k, k ≠ q → (w.drew.freeze ⟨q, 0, none⟩ (x :: l).length).heap[k]? = w.heap[k]? := fun k hk => by
      have hk' : ¬ q = k := fun e => hk e.symm
      have e1 : w.drew.heap = w.heap := rfl
      simp [World.freeze, Array.getElem?_modify, hk', e1]
    have hs : (w.drew.freeze ⟨q, 0, none⟩ (x :: l).length).heap.size = w.heap.size := by
      have e1 : w.drew.heap = w.heap := rfl
      simp [World.freeze, e1]
    have hbl : Below w0.heap.size w (w.drew.freeze ⟨q, 0, none⟩ (x :: l).length) := Lib.below_freeze (Below.drew (Below.refl _ _)) (p := ⟨q, 0, none⟩) h1 _
    refine ⟨_, fun i => if i = q then none else σ i, rfl, hR _ (fun i r hi hF => ?_), ⟨⟨hw.bel.trans hbl, fun i r hi => ?_⟩, by rw [hs]; exact Nat.le_refl _, fun i hi hn => ?_, fun i r hi => ?_⟩⟩
    · have : i ≠ q := fun e => hF (by simp [e])
      simp only [this, if_false]; exact hi
    · by_cases e : i = q
      · simp [e] at hi
      · simp only [e, if_false] at hi
        obtain ⟨g1, cur', g2, g3⟩ := hw.row i r hi
        exact ⟨g1, cur', (hk i e).trans g2, g3⟩
    · exact hk i fun e => by rw [e, h3] at hn; cases hn
    · by_cases e : i = q
      · simp [e] at hi
      · simp only [e, if_false] at hi
        exact .inl (by rw [hi]; simp)
end
end Go.Proofs.YtkbhjejalkbogaaGreatDoor

/- 'TreeShow': each part of a tree is written into a builder; the law. -/
set_option linter.unusedVariables false
set_option linter.unusedSimpArgs false
namespace Go.Proofs.YtkbhjejalkbogaaGreatDoor
open Go Go.Av Go.RowKit

theorem strCells_app (a b : ByteArray) : Lib.strCells (a ++ b) = Lib.strCells a ++ Lib.strCells b := by
  have e : ∀ s : ByteArray, Lib.strCells s = (bl s).map fun b => Value.int .u8 b.toNat := fun _ => rfl
  rw [e, e, e, bl_append, List.map_append]
section
variable {w0 : World} {σ : Vw}

end
end Go.Proofs.YtkbhjejalkbogaaGreatDoor

/- 'TableId': the number of a tree's text, by either hand; the law. -/
set_option linter.unusedVariables false
set_option linter.unusedSimpArgs false
namespace Go.Proofs.YtkbhjejalkbogaaGreatDoor
open Go Go.Av Go.RowKit

section
variable {w0 : World} {σ : Vw}

end
end Go.Proofs.YtkbhjejalkbogaaGreatDoor

/- When an entry is sound; an entry as a text. -/
set_option linter.unusedVariables false
set_option linter.unusedSimpArgs false
namespace Go.Proofs.YtkbhjejalkbogaaGreatDoor
open Go Go.Av Go.RowKit

def kindB (x : En) : Bool :=
  if x.2.1 = 1 then !x.2.2.1 && (decide (x.2.2.2.1 = 0) && decide (x.2.2.2.2 = ⟨#[]⟩)) else if x.2.1 = 2 then !x.2.2.1 || decide (x.2.2.2.2 = ⟨#[]⟩)
  else if x.2.1 = 3 then !x.2.2.1 && decide (x.2.2.2.2 = ⟨#[]⟩) else if x.2.1 = 4 then !x.2.2.1 && decide (x.2.2.2.1 = 0) else false
noncomputable def enB (x : En) : Bool :=
  (allNames x.1 && inB x.1.length (if x.2.1 = 3 then 0 else 1) 4) && (inB x.2.2.2.1 0 7 && (decide (x.2.2.2.2.size ≤ 24) && kindB x))

section
variable {w0 : World} {σ : Vw}

theorem impl_mode {a : Int} {R : Value → Vw → Prop} (hR : R (.bool (inB a 0 7)) σ) : AC Tryz.prog w0 n_impl_modeOk [.int .i64 a] σ R := by
  refine ac_impl_modeOk ?_
  unfold vc_impl_modeOk
  exact impl_within hR

set_option maxRecDepth 20000 in
theorem impl_entryOk {es : List Value} {x : En} (h : REn (Av.get w0 σ) es x) {R : Value → Vw → Prop} (hR : R (.bool (enB x)) σ) : AC Tryz.prog w0 n_impl_entryOk [.agg ⟨es⟩] σ R := by
  obtain ⟨p, k, d, a, t⟩ := x
  obtain ⟨v, rfl, hv, _⟩ := h
  simp only at hv
  refine ac_impl_entryOk ?_
  unfold vc_impl_entryOk cs_impl_entryOk_1
  rw [pVal_5 hv.one rfl rfl rfl rfl]
  simp only [cellOf_agg, List.getD_cons_zero, List.getD_cons_succ]
  have fin : ∀ b, enB (p, k, d, a, t) = b → R (.bool b) σ := fun b h => h ▸ hR
  clear hR
  by_cases hk3 : k = 3
  · rw [pBin_eq, pIf_d]
    refine ⟨fun _ => ?_, fun h => absurd hk3 h⟩
    refine impl_namesOk hv (pNotIf.2 ⟨fun e => fin _ (by simp only [enB]; rw [if_pos hk3, e]; rfl), fun e1 => ?_⟩)
    refine impl_mode (pNotIf.2 ⟨fun e => fin _ (by simp only [enB]; rw [e]; simp), fun e2 => ?_⟩)
    refine pLenS_s.2 (pBin_gt.2 (pIf_d.2 ⟨fun e => fin _ ?_, fun e3 => ?_⟩))
    · simp only [enB]; rw [decide_eq_false (by omega)]; simp
    have e4 : enB (p, k, d, a, t) = kindB (p, k, d, a, t) := by
      simp only [enB]; rw [if_pos hk3, e1, e2, decide_eq_true (by omega)]; simp
    rw [e4] at fin
    clear e1 e2 e4
    cases d <;>
    repeat' (first | (with_reducible refine pBin_eq.2 ?_; with_reducible refine pIf_d.2 ⟨fun _ => ?_, fun _ => ?_⟩) | with_reducible refine pNotIf.2 ⟨fun _ => ?_, fun _ => ?_⟩ | (with_reducible refine pUn_not.2 ?_; with_reducible refine pIf_b.2 ⟨fun _ => ?_, fun _ => ?_⟩) | with_reducible refine pBin_seq.2 ?_)
    all_goals first | (exfalso; omega) | (exfalso; simp_all; done) | (refine fin _ ?_; simp_all [kindB]; done) | (refine pBin_eq.2 (fin _ ?_); simp_all [kindB]; done)
  · rw [pBin_eq, pIf_d]
    refine ⟨fun h => absurd h hk3, fun _ => ?_⟩
    refine impl_namesOk hv (pNotIf.2 ⟨fun e => fin _ (by simp only [enB]; rw [if_neg hk3, e]; rfl), fun e1 => ?_⟩)
    refine impl_mode (pNotIf.2 ⟨fun e => fin _ (by simp only [enB]; rw [e]; simp), fun e2 => ?_⟩)
    refine pLenS_s.2 (pBin_gt.2 (pIf_d.2 ⟨fun e => fin _ ?_, fun e3 => ?_⟩))
    · simp only [enB]; rw [decide_eq_false (by omega)]; simp
    have e4 : enB (p, k, d, a, t) = kindB (p, k, d, a, t) := by
      simp only [enB]; rw [if_neg hk3, e1, e2, decide_eq_true (by omega)]; simp
    rw [e4] at fin
    clear e1 e2 e4
    cases d <;>
    repeat' (first | (with_reducible refine pBin_eq.2 ?_; with_reducible refine pIf_d.2 ⟨fun _ => ?_, fun _ => ?_⟩) | with_reducible refine pNotIf.2 ⟨fun _ => ?_, fun _ => ?_⟩ | (with_reducible refine pUn_not.2 ?_; with_reducible refine pIf_b.2 ⟨fun _ => ?_, fun _ => ?_⟩) | with_reducible refine pBin_seq.2 ?_)
    all_goals first | (exfalso; omega) | (exfalso; simp_all; done) | (refine fin _ ?_; simp_all [kindB]; done) | (refine pBin_eq.2 (fin _ ?_); simp_all [kindB]; done)

set_option maxRecDepth 20000 in
theorem spec_entryOk {es : List Value} {x : En} (h : REn (Av.get w0 σ) es x) {R : Value → Vw → Prop} (hR : R (.bool (enB x)) σ) : AC Tryz.prog w0 n_spec_l3EntryOk [.agg ⟨es⟩] σ R := by
  obtain ⟨p, k, d, a, t⟩ := x
  obtain ⟨v, rfl, hv, _⟩ := h
  simp only at hv
  refine ac_spec_l3EntryOk ?_
  unfold vc_spec_l3EntryOk cs_spec_l3EntryOk_1
  rw [pVal_5 hv.one rfl rfl rfl rfl]
  simp only [cellOf_agg, List.getD_cons_zero, List.getD_cons_succ]
  have fin : ∀ b, enB (p, k, d, a, t) = b → R (.bool b) σ := fun b h => h ▸ hR
  clear hR
  have hl := hv.le
  rw [hv.len, pBin_gt, pIf_d]
  refine ⟨fun hp => ?_, fun hp => ?_⟩
  · have hin : inB p.length (if k = 3 then 0 else 1) 4 = inB p.length 1 4 := by
      unfold inB
      congr 1
      apply propext
      split <;> omega
    refine spec_PathOk hv (pNotIf.2 ⟨fun e => fin _ (by simp only [enB]; rw [hin, e]; rfl), fun e1 => ?_⟩)
    refine spec_In (pNotIf.2 ⟨fun e => fin _ (by simp only [enB]; rw [e]; simp), fun e2 => ?_⟩)
    refine pLenS_s.2 (pBin_gt.2 (pIf_d.2 ⟨fun e => fin _ ?_, fun e3 => ?_⟩))
    · simp only [enB]; rw [decide_eq_false (by omega)]; simp
    have e4 : enB (p, k, d, a, t) = kindB (p, k, d, a, t) := by
      simp only [enB]; rw [hin, e1, e2, decide_eq_true (by omega)]; simp
    rw [e4] at fin
    clear e1 e2 e4 hin
    cases d <;>
    repeat' (first | (with_reducible refine hv.len.2 ?_; with_reducible refine pBin_gt.2 ?_; with_reducible refine pIf_d.2 ⟨fun _ => ?_, fun _ => ?_⟩) | (with_reducible refine pBin_eq.2 ?_; with_reducible refine pIf_d.2 ⟨fun _ => ?_, fun _ => ?_⟩) | with_reducible refine pNotIf.2 ⟨fun _ => ?_, fun _ => ?_⟩ | (with_reducible refine pUn_not.2 ?_; with_reducible refine pIf_b.2 ⟨fun _ => ?_, fun _ => ?_⟩) | with_reducible refine pBin_seq.2 ?_)
    all_goals first | (exfalso; omega) | (exfalso; simp_all; done) | (refine fin _ ?_; simp_all [kindB]; done) | (refine pBin_eq.2 (fin _ ?_); simp_all [kindB]; done)
  · have hp0 : p = [] := List.eq_nil_of_length_eq_zero (by omega)
    subst hp0
    refine spec_In (pNotIf.2 ⟨fun e => fin _ (by simp only [enB]; rw [e]; simp), fun e2 => ?_⟩)
    refine pLenS_s.2 (pBin_gt.2 (pIf_d.2 ⟨fun e => fin _ ?_, fun e3 => ?_⟩))
    · simp only [enB]; rw [decide_eq_false (by omega)]; simp
    have e4 : enB ([], k, d, a, t) = (decide (k = 3) && kindB ([], k, d, a, t)) := by
      simp only [enB]; rw [e2, decide_eq_true (by omega)]
      by_cases hk : k = 3
      · rw [if_pos hk]; simp [hk, allNames, inB]
      · rw [if_neg hk]; simp [hk, allNames, inB]
    rw [e4] at fin
    clear e2 e4
    cases d <;>
    repeat' (first | (with_reducible refine hv.len.2 ?_; with_reducible refine pBin_gt.2 ?_; with_reducible refine pIf_d.2 ⟨fun _ => ?_, fun _ => ?_⟩) | (with_reducible refine pBin_eq.2 ?_; with_reducible refine pIf_d.2 ⟨fun _ => ?_, fun _ => ?_⟩) | with_reducible refine pNotIf.2 ⟨fun _ => ?_, fun _ => ?_⟩ | (with_reducible refine pUn_not.2 ?_; with_reducible refine pIf_b.2 ⟨fun _ => ?_, fun _ => ?_⟩) | with_reducible refine pBin_seq.2 ?_)
    all_goals first | (exfalso; simp only [List.length_nil] at *; omega) | (exfalso; simp_all; done) | (refine fin _ ?_; simp_all [kindB]; done) | (refine pBin_eq.2 (fin _ ?_); simp_all [kindB]; done)
end

/-! ### Its text -/
def lineE (x : En) : ByteArray :=
  if x.2.1 = 1 then ⟨#[103, 111, 110, 101, 32]⟩ ++ pathT x.1 ++ ⟨#[10]⟩
  else if x.2.1 = 3 then ⟨#[109, 111, 100, 101, 32]⟩ ++ pathT x.1 ++ ⟨#[32]⟩ ++ decZ x.2.2.2.1 ++ ⟨#[10]⟩
  else if x.2.1 = 4 then ⟨#[100, 97, 116, 97, 32]⟩ ++ pathT x.1 ++ ⟨#[32]⟩ ++ dataT x.2.2.2.2 ++ ⟨#[10]⟩
  else if x.2.2.1 = true then ⟨#[110, 101, 119, 100, 105, 114, 32]⟩ ++ pathT x.1 ++ ⟨#[32]⟩ ++ decZ x.2.2.2.1 ++ ⟨#[10]⟩
  else ⟨#[110, 101, 119, 32]⟩ ++ pathT x.1 ++ ⟨#[32]⟩ ++ decZ x.2.2.2.1 ++ ⟨#[32]⟩ ++ dataT x.2.2.2.2 ++ ⟨#[10]⟩
/-- Its parts are short. -/
def smallE (x : En) : Prop := x.1.length + sumS x.1 ≤ 24 ∧ (0 ≤ x.2.2.2.1 ∧ x.2.2.2.1 ≤ 7) ∧ x.2.2.2.2.size ≤ 24 ∧ (1 ≤ x.2.1 ∧ x.2.1 ≤ 4)
theorem names_sum : ∀ {p : List ByteArray}, allNames p = true → sumS p ≤ 5 * p.length
  | [], _ => by simp [sumS]
  | x :: p, h => by
    have h0 := allNames_iff.1 h 0 x rfl
    have h1 : allNames p = true := allNames_iff.2 fun j y hj => allNames_iff.1 h (j + 1) y (by simpa using hj)
    have := names_sum h1
    simp only [nameOk, Bool.and_eq_true, decide_eq_true_eq, inB] at h0
    simp only [sumS, List.length_cons]
    omega
theorem en_small {x : En} (h : enB x = true) : smallE x := by
  obtain ⟨p, k, d, a, t⟩ := x
  simp only [enB, Bool.and_eq_true, decide_eq_true_eq, inB] at h
  obtain ⟨⟨h1, h2⟩, h3, h4, h5⟩ := h
  have := names_sum h1
  refine ⟨by simp only; split at h2 <;> omega, h3, h4, ?_⟩
  simp only [kindB] at h5
  simp only
  split at h5
  · omega
  · split at h5
    · omega
    · split at h5
      · omega
      · split at h5
        · omega
        · cases h5
theorem lineE_size {x : En} (h : smallE x) : (lineE x).size ≤ 100 := by
  obtain ⟨h1, h2, h3, _⟩ := h
  have a1 := dec_one h2
  have a2 := dataT_size x.2.2.2.2
  have a3 := pathT_size x.1
  unfold lineE
  split
  · simp only [ByteArray.size_append]; show 5 + _ + 1 ≤ _; omega
  · split
    · simp only [ByteArray.size_append]; show 5 + _ + 1 + _ + 1 ≤ _; omega
    · split
      · simp only [ByteArray.size_append]; show 5 + _ + 1 + _ + 1 ≤ _; omega
      · split
        · simp only [ByteArray.size_append]; show 7 + _ + 1 + _ + 1 ≤ _; omega
        · simp only [ByteArray.size_append]; show 4 + _ + 1 + _ + 1 + _ + 1 ≤ _; omega

section
variable {w0 : World} {σ : Vw}

theorem impl_line (tab : Tab w0) {es : List Value} {x : En} (h : REn (Av.get w0 σ) es x) (hx : smallE x) {R : Value → Vw → Prop} (hR : ∀ σ', Keeps σ σ' → R (.string (lineE x)) σ') : AC Tryz.prog w0 n_impl_Entry_line [.agg ⟨es⟩] σ R := by
  obtain ⟨h1, h2, h3, h4⟩ := hx
  have a1 := dec_one h2
  have a2 := dataT_size x.2.2.2.2
  have a3 := pathT_size x.1
  obtain ⟨p, k, d, a, t⟩ := x
  obtain ⟨v, rfl, hv, _⟩ := h
  simp only at hv h1 h2 h3 h4 a1 a2 a3
  refine ac_impl_Entry_line ?_
  unfold vc_impl_Entry_line
  rw [pVal_5 hv.one rfl rfl rfl rfl]
  simp only [cellOf_agg, List.getD_cons_zero, List.getD_cons_succ]
  have s5 : ∀ b c d e f, (⟨#[b, c, d, e, f]⟩ : ByteArray).size = 5 := fun _ _ _ _ _ => rfl
  have s7 : ∀ b c d e f g i, (⟨#[b, c, d, e, f, g, i]⟩ : ByteArray).size = 7 := fun _ _ _ _ _ _ _ => rfl
  have s4 : ∀ b c d e, (⟨#[b, c, d, e]⟩ : ByteArray).size = 4 := fun _ _ _ _ => rfl
  have s1 : ∀ b, (⟨#[b]⟩ : ByteArray).size = 1 := fun _ => rfl
  refine impl_pathText hv (by omega) ?_
  refine strconv_Itoa tab (by omega) ?_
  rw [pBin_eq, pIf_d]
  refine ⟨fun e1 => ?_, fun e1 => ?_⟩
  · rw [pBin_cat (by rw [s5]; omega), pBin_cat (by simp only [ByteArray.size_append, s5, s1]; omega)]
    have := hR σ (Keeps.refl _)
    rw [lineE, if_pos e1] at this; exact this
  rw [pBin_eq, pIf_d]
  refine ⟨fun e3 => ?_, fun e3 => ?_⟩
  · rw [pBin_cat (by rw [s5]; omega), pBin_cat (by simp only [ByteArray.size_append, s5, s1]; omega), pBin_cat (by simp only [ByteArray.size_append, s5, s1]; omega), pBin_cat (by simp only [ByteArray.size_append, s5, s1]; omega)]
    have := hR σ (Keeps.refl _)
    rw [lineE, if_neg e1, if_pos e3] at this; exact this
  rw [pBin_eq, pIf_d]
  refine ⟨fun e4 => ?_, fun e4 => ?_⟩
  · rw [pBin_cat (by rw [s5]; omega), pBin_cat (by simp only [ByteArray.size_append, s5, s1]; omega)]
    refine impl_dataText (by omega) fun s2 k2 => ?_
    rw [pBin_cat (by simp only [ByteArray.size_append, s5, s1]; omega), pBin_cat (by simp only [ByteArray.size_append, s5, s1]; omega)]
    have := hR s2 k2
    rw [lineE, if_neg e1, if_neg e3, if_pos e4] at this; exact this
  rw [pIf_b]
  refine ⟨fun hd => ?_, fun hd => ?_⟩
  · rw [pBin_cat (by rw [s7]; omega), pBin_cat (by simp only [ByteArray.size_append, s7, s1]; omega), pBin_cat (by simp only [ByteArray.size_append, s7, s1]; omega), pBin_cat (by simp only [ByteArray.size_append, s7, s1]; omega)]
    have := hR σ (Keeps.refl _)
    rw [lineE, if_neg e1, if_neg e3, if_neg e4, if_pos hd] at this; exact this
  · rw [pBin_cat (by rw [s4]; omega), pBin_cat (by simp only [ByteArray.size_append, s4, s1]; omega), pBin_cat (by simp only [ByteArray.size_append, s4, s1]; omega), pBin_cat (by simp only [ByteArray.size_append, s4, s1]; omega)]
    refine impl_dataText (by omega) fun s2 k2 => ?_
    rw [pBin_cat (by simp only [ByteArray.size_append, s4, s1]; omega), pBin_cat (by simp only [ByteArray.size_append, s4, s1]; omega)]
    have := hR s2 k2
    rw [lineE, if_neg e1, if_neg e3, if_neg e4, if_neg (by simp [hd])] at this; exact this

theorem spec_l3Text {es : List Value} {x : En} (h : REn (Av.get w0 σ) es x) (hx : smallE x) {R : Value → Vw → Prop} (hR : ∀ σ', Keeps σ σ' → R (.string (lineE x)) σ') : AC Tryz.prog w0 n_spec_l3Text [.agg ⟨es⟩] σ R := by
  obtain ⟨h1, h2, h3, h4⟩ := hx
  have a1 := dec_one h2
  have a2 := dataT_size x.2.2.2.2
  have a3 := pathT_size x.1
  obtain ⟨p, k, d, a, t⟩ := x
  obtain ⟨v, rfl, hv, _⟩ := h
  simp only at hv h1 h2 h3 h4 a1 a2 a3
  refine ac_spec_l3Text ?_
  unfold vc_spec_l3Text cs_spec_l3Text_1
  rw [pVal_5 hv.one rfl rfl rfl rfl]
  simp only [cellOf_agg, List.getD_cons_zero, List.getD_cons_succ]
  have s5 : ∀ b c d e f, (⟨#[b, c, d, e, f]⟩ : ByteArray).size = 5 := fun _ _ _ _ _ => rfl
  have s7 : ∀ b c d e f g i, (⟨#[b, c, d, e, f, g, i]⟩ : ByteArray).size = 7 := fun _ _ _ _ _ _ _ => rfl
  have s4 : ∀ b c d e, (⟨#[b, c, d, e]⟩ : ByteArray).size = 4 := fun _ _ _ _ => rfl
  have s1 : ∀ b, (⟨#[b]⟩ : ByteArray).size = 1 := fun _ => rfl
  refine spec_l3Name hv (by omega) ?_
  rw [pBin_eq, pIf_d]
  refine ⟨fun e1 => ?_, fun e1 => ?_⟩
  · rw [pBin_cat (by rw [s5]; omega), pBin_cat (by simp only [ByteArray.size_append, s5, s1]; omega)]
    have := hR σ (Keeps.refl _)
    rw [lineE, if_pos e1] at this; exact this
  rw [pBin_eq, pIf_d]
  refine ⟨fun e2 => ?_, fun e2 => ?_⟩
  · rw [pIf_b]
    refine ⟨fun hd => ?_, fun hd => ?_⟩
    · rw [pBin_cat (by rw [s7]; omega), pBin_cat (by simp only [ByteArray.size_append, s7, s1]; omega)]
      refine spec_l1Dec (by omega) fun s2 k2 => ?_
      rw [pBin_cat (by simp only [ByteArray.size_append, s7, s1]; omega), pBin_cat (by simp only [ByteArray.size_append, s7, s1]; omega)]
      have := hR s2 k2
      rw [lineE, if_neg e1, if_neg (by show ¬ k = 3; omega), if_neg (by show ¬ k = 4; omega), if_pos hd] at this; exact this
    · rw [pBin_eq, pIf_d]
      refine ⟨fun _ => ?_, fun h => absurd e2 h⟩
      rw [pBin_cat (by rw [s4]; omega), pBin_cat (by simp only [ByteArray.size_append, s4, s1]; omega)]
      refine spec_l1Dec (by omega) fun s2 k2 => ?_
      rw [pBin_cat (by simp only [ByteArray.size_append, s4, s1]; omega), pBin_cat (by simp only [ByteArray.size_append, s4, s1]; omega)]
      refine spec_l1Hex (by omega) ?_
      rw [pBin_cat (by simp only [ByteArray.size_append, s4, s1]; omega), pBin_cat (by simp only [ByteArray.size_append, s4, s1]; omega)]
      have := hR s2 k2
      rw [lineE, if_neg e1, if_neg (by show ¬ k = 3; omega), if_neg (by show ¬ k = 4; omega), if_neg (by simp [hd])] at this; exact this
  rw [pBin_eq, pIf_d]
  refine ⟨fun h => absurd h e2, fun _ => ?_⟩
  rw [pBin_eq, pIf_d]
  refine ⟨fun e3 => ?_, fun e3 => ?_⟩
  · rw [pBin_cat (by rw [s5]; omega), pBin_cat (by simp only [ByteArray.size_append, s5, s1]; omega)]
    refine spec_l1Dec (by omega) fun s2 k2 => ?_
    rw [pBin_cat (by simp only [ByteArray.size_append, s5, s1]; omega), pBin_cat (by simp only [ByteArray.size_append, s5, s1]; omega)]
    have := hR s2 k2
    rw [lineE, if_neg e1, if_pos e3] at this; exact this
  · rw [pBin_cat (by rw [s5]; omega), pBin_cat (by simp only [ByteArray.size_append, s5, s1]; omega)]
    refine spec_l1Hex (by omega) ?_
    rw [pBin_cat (by simp only [ByteArray.size_append, s5, s1]; omega), pBin_cat (by simp only [ByteArray.size_append, s5, s1]; omega)]
    have := hR σ (Keeps.refl _)
    rw [lineE, if_neg e1, if_neg e3, if_pos (by show k = 4; omega)] at this; exact this
end
end Go.Proofs.YtkbhjejalkbogaaGreatDoor

/- 'LayerWrite': entry by entry, by either hand; the law. -/
set_option linter.unusedVariables false
set_option linter.unusedSimpArgs false
namespace Go.Proofs.YtkbhjejalkbogaaGreatDoor
open Go Go.Av Go.RowKit

def layT (xs : List En) : ByteArray := catB (xs.map lineE)
theorem layT_size {xs : List En} (h : ∀ x, x ∈ xs → smallE x) : (layT xs).size ≤ 100 * xs.length := by
  have h1 : (layT xs).size ≤ sumBy (fun _ => 100) xs := catB_size fun x hx => lineE_size (h x hx)
  have h2 : ∀ l : List En, sumBy (fun _ => 100) l = 100 * l.length := fun l => by
    induction l with
    | nil => rfl
    | cons a r ih => simp only [sumBy, ih, List.length_cons]; omega
  rw [h2] at h1; exact h1
theorem layT_take {xs : List En} {j : Nat} {x : En} (hj : xs[j]? = some x) : layT (xs.take (j + 1)) = layT (xs.take j) ++ lineE x := by
  rw [layT, List.take_add_one, hj, Option.toList_some, List.map_append, List.map_cons, List.map_nil, catB_snoc]; rfl
noncomputable def layX (xs : List En) : ByteArray := if allB enB xs = true ∧ (layT xs).size ≤ 6000 then layT xs else ⟨#[]⟩
theorem layX_bad {xs : List En} {j : Nat} {x : En} (hj : xs[j]? = some x) (h : enB x = false) : layX xs = ⟨#[]⟩ := by
  rw [layX, if_neg]; rw [allB_bad hj h]; simp

section
variable {w0 : World} {σ : Vw}

theorem spec_LayerWrite {v : Value} {xs : List En} (h : RSl 5 REn (Av.get w0 σ) v xs) (hb : xs.length ≤ 100000000) {R : Value → Vw → Prop} (hR : ∀ σ', Keeps σ σ' → R (.string (layX xs)) σ') : AC Tryz.prog w0 n_spec_LayerWrite [v] σ R := by
  refine ac_spec_LayerWrite ?_
  unfold vc_spec_LayerWrite
  refine loop_rule (m := xs.length) (fun m l st => ∃ j : Nat, m + j = xs.length ∧ Keeps σ st ∧ (∀ (i : Nat) (x : En), i < j → xs[i]? = some x → enB x = true) ∧ l = [v, .string ⟨#[]⟩, .string (layT (xs.take j)), .int .i64 (j : Nat)]) ?_ ⟨0, by omega, Keeps.refl _, fun i x h => by omega, rfl⟩
  rintro m l st L ⟨j, hm, ks, ht, rfl⟩ hL
  simp only [vget, List.getD_cons_zero, List.getD_cons_succ]
  have hst := h.mono ks.le fun es x => mono_en ks.le
  rw [hst.len, pBin_lt, pIf_d]
  refine ⟨fun hj => ?_, fun hj => ?_⟩
  · have hx := List.getElem?_eq_getElem (show j < xs.length by omega)
    generalize xs[j]'(by omega) = x at hx
    refine hst.at hx fun g hg => ?_
    refine spec_entryOk hg (pNotIf.2 ⟨fun e => ?_, fun e => ?_⟩)
    · have := hR st ks
      rw [layX_bad hx e] at this; exact this
    · have hsm := en_small e
      have hls := lineE_size hsm
      have hts : (layT (xs.take j)).size ≤ 100 * (xs.take j).length := layT_size fun y hy => by
        obtain ⟨i, hi⟩ := List.getElem?_of_mem hy
        have hij : i < j := by have := (List.getElem?_eq_some_iff.1 hi).1; rw [List.length_take] at this; omega
        rw [List.getElem?_take_of_lt hij] at hi
        exact en_small (ht i y hij hi)
      rw [List.length_take] at hts
      refine hst.at hx fun g2 hg2 => ?_
      refine spec_l3Text hg2 hsm fun s2 k2 => ?_
      rw [pBin_cat (by omega), pBin_add (by omega)]
      refine hL _ _ (m - 1) (by omega) ⟨j + 1, by omega, ks.trans k2, fun i y hi he => ?_, by rw [layT_take hx]; simp⟩
      by_cases e' : i = j
      · subst e'; rw [hx] at he; cases he; exact e
      · exact ht i y (by omega) he
  · have e : j = xs.length := by omega
    subst e
    rw [List.take_length]
    have hall : allB enB xs = true := allB_iff.2 fun i x he => ht i x (List.getElem?_eq_some_iff.1 he).1 he
    show pLenS (.string (layT xs)) _
    rw [pLenS_s, pBin_gt, pIf_d]
    have := hR st ks
    refine ⟨fun hgt => ?_, fun hle => ?_⟩
    · rw [layX, if_neg (by omega)] at this; exact this
    · rw [layX, if_pos ⟨hall, by omega⟩] at this; exact this

theorem len_view {b : Nat} {F : List Nat} {bs : List Value} (h : BV w0 σ b F bs) {R : Value → Vw → Prop} (hR : R (.int .i64 (bs.length : Nat)) σ) : AC Tryz.prog w0 n_p_strings_Builder_Len [.pointer (some ⟨b, 0, none⟩)] σ R := by
  obtain ⟨hb, p, v, hp, hr, hv⟩ := h
  refine ac_p_strings_Builder_Len ?_
  unfold vc_p_strings_Builder_Len
  rw [pNil_s, pField_s, addr_add]
  refine ⟨⟨b, 1, none⟩, fun _ => v, rfl, fun i hi => ?_, ?_⟩
  · have e : i = 0 := by omega
    subst e
    rw [addr_add, get_row hb hr]; rfl
  · rcases hv with ⟨rfl, rfl, _⟩ | ⟨q, cap, rfl, _⟩
    · exact pLen_s.2 hR
    · exact pLen_s.2 hR

theorem impl_LayerWrite (tab : Tab w0) {v : Value} {xs : List En} (h : RSl 5 REn (Av.get w0 σ) v xs) (hb : xs.length ≤ 100000000) {R : Value → Vw → Prop} (hR : ∀ σ', Keeps σ σ' → R (.string (layX xs)) σ') : AC Tryz.prog w0 n_impl_LayerWrite [v] σ R := by
  refine ac_impl_LayerWrite ?_
  unfold vc_impl_LayerWrite
  rw [pVal_2 rfl rfl]
  intro b hb1 hb2
  have kb : Keeps σ (σ.put b ⟨Tryz.laysB_ren.t 72, [.pointer none, .slice none 0 0], 2, (0, 0)⟩) := Keeps.put hb2
  have hB0 : BV w0 (σ.put b ⟨Tryz.laysB_ren.t 72, [.pointer none, .slice none 0 0], 2, (0, 0)⟩) b [b] [] := BV.new (w0 := w0) (σ := σ) hb1
  rw [h.len]
  refine loop_rule (m := xs.length) (fun m l st => ∃ (j : Nat) (F : List Nat), m + j = xs.length ∧ Keeps σ st ∧ (∀ i, i ∈ F → σ i = none) ∧ BV w0 st b F (Lib.strCells (layT (xs.take j))) ∧ (∀ (i : Nat) (x : En), i < j → xs[i]? = some x → enB x = true) ∧
    l = [.string ⟨#[]⟩, .pointer (some ⟨b, 0, none⟩), v, .int .i64 (xs.length : Nat), .int .i64 (j : Nat)]) ?_ ⟨0, [b], by omega, kb, fun i hi => by rw [List.mem_singleton.1 hi]; exact hb2, hB0, fun i x h => by omega, rfl⟩
  rintro m l st L ⟨j, F, hm, ks, hF, hB, ht, rfl⟩ hL
  simp only [vget, List.getD_cons_zero, List.getD_cons_succ]
  have hst := h.mono ks.le fun es x => mono_en ks.le
  have hts : (layT (xs.take j)).size ≤ 100 * (xs.take j).length := layT_size fun y hy => by
    obtain ⟨i, hi⟩ := List.getElem?_of_mem hy
    have hij : i < j := by have := (List.getElem?_eq_some_iff.1 hi).1; rw [List.length_take] at this; omega
    rw [List.getElem?_take_of_lt hij] at hi
    exact en_small (ht i y hij hi)
  rw [List.length_take] at hts
  rw [pBin_lt, pIf_d]
  refine ⟨fun hj => ?_, fun hj => ?_⟩
  · have hx := List.getElem?_eq_getElem (show j < xs.length by omega)
    generalize xs[j]'(by omega) = x at hx
    refine hst.at hx fun g hg => ?_
    have hg0 := hg
    obtain ⟨u, hu, hu2⟩ := hg
    simp only [expl, List.cons.injEq, and_true] at hu
    obtain ⟨q0, q1, q2, q3, q4⟩ := hu
    rw [pVal_5 (by rw [q0]; exact hu2.1.one) (by rw [q1]; rfl) (by rw [q2]; rfl) (by rw [q3]; rfl) (by rw [q4]; rfl)]
    refine impl_entryOk hg0 (pNotIf.2 ⟨fun e => ?_, fun e => ?_⟩)
    · have := hR st ks
      rw [layX_bad hx e] at this; exact this
    · have hsm := en_small e
      have hls := lineE_size hsm
      refine impl_line tab hg0 hsm fun s1 k1 => ?_
      have hB1 := hB.frame (k1.but_at fun i hi => (hB.dom i hi).2)
      refine write_view hB1 (by rw [Lib.strCells_length]; omega) fun F' s2 k2 hB2 hF2 => ?_
      rw [pBin_add (by omega)]
      refine hL _ _ (m - 1) (by omega) ⟨j + 1, F', by omega, ?_, fun i hi => ?_, ?_, fun i y hi he => ?_, by simp⟩
      · exact k2.old (ks.trans k1) hF
      · rcases hF2 i hi with h | h
        · exact hF i h
        · exact none_at (ks.trans k1) h
      · rw [layT_take hx, strCells_app]; exact hB2
      · by_cases e' : i = j
        · subst e'; rw [hx] at he; cases he; exact e
        · exact ht i y (by omega) he
  · have e : j = xs.length := by omega
    subst e
    rw [List.take_length] at hB hts
    have hall : allB enB xs = true := allB_iff.2 fun i x he => ht i x (List.getElem?_eq_some_iff.1 he).1 he
    show AC Tryz.prog w0 n_p_strings_Builder_Len [.pointer (some ⟨b, 0, none⟩)] st _
    refine len_view hB ?_
    rw [Lib.strCells_length, pBin_gt, pIf_d]
    refine ⟨fun hgt => ?_, fun hle => ?_⟩
    · have := hR st ks
      rw [layX, if_neg (by omega)] at this; exact this
    · have e1 : Lib.strCells (layT xs) = Lib.byteCells (bl (layT xs)) := rfl
      rw [e1] at hB
      refine string_view hB fun s2 k2 => ?_
      have e2 : (⟨(bl (layT xs)).toArray⟩ : ByteArray) = layT xs := ofL_bl _
      rw [e2]
      have := hR s2 (k2.old ks hF)
      rw [layX, if_pos ⟨hall, by omega⟩] at this; exact this

end
end Go.Proofs.YtkbhjejalkbogaaGreatDoor

/- Layers read from texts: a line and what it says; two ways to read, and that they agree. -/
set_option linter.unusedVariables false
set_option linter.unusedSimpArgs false
namespace Go.Proofs.YtkbhjejalkbogaaGreatDoor
open Go Go.Av Go.RowKit

def nlT : ByteArray := ⟨#[10]⟩
def dashT : ByteArray := ⟨#[45]⟩
def goneT : ByteArray := ⟨#[103, 111, 110, 101]⟩
def newdirT : ByteArray := ⟨#[110, 101, 119, 100, 105, 114]⟩
def newT : ByteArray := ⟨#[110, 101, 119]⟩
def modeT : ByteArray := ⟨#[109, 111, 100, 101]⟩
def dataW : ByteArray := ⟨#[100, 97, 116, 97]⟩
def spT : ByteArray := ⟨#[32]⟩
/-- The words of an entry's line. -/
def wordsE (x : En) : List ByteArray :=
  if x.2.1 = 1 then [goneT, pathT x.1] else if x.2.1 = 3 then [modeT, pathT x.1, decZ x.2.2.2.1] else if x.2.1 = 4 then [dataW, pathT x.1, dataT x.2.2.2.2]
  else if x.2.2.1 = true then [newdirT, pathT x.1, decZ x.2.2.2.1] else [newT, pathT x.1, decZ x.2.2.2.1, dataT x.2.2.2.2]
def joinW : List ByteArray → ByteArray
  | [] => nilT
  | [a] => a
  | a :: b :: r => a ++ spT ++ joinW (b :: r)
def lineB (x : En) : ByteArray := joinW (wordsE x)
theorem lineE_B (x : En) : lineE x = lineB x ++ nlT := by
  apply bl_inj
  unfold lineE lineB wordsE
  split
  · simp only [joinW, bl_append]; simp [goneT, spT, nlT]; rfl
  · split
    · simp only [joinW, bl_append]; simp [modeT, spT, nlT]; rfl
    · split
      · simp only [joinW, bl_append]; simp [dataW, spT, nlT]; rfl
      · split
        · simp only [joinW, bl_append]; simp [newdirT, spT, nlT]; rfl
        · simp only [joinW, bl_append]; simp [newT, spT, nlT]; rfl
theorem cut_words : ∀ {ws : List ByteArray}, ws ≠ [] → (∀ w, w ∈ ws → (32 : UInt8) ∉ bl w) → cutL 32 (bl (joinW ws)) = ws.map bl
  | [], h, _ => absurd rfl h
  | [a], _, h => by simp only [joinW, List.map_cons, List.map_nil]; exact cutL_none (h a (by simp))
  | a :: b :: r, _, h => by
    have e : bl (joinW (a :: b :: r)) = bl a ++ 32 :: bl (joinW (b :: r)) := by rw [joinW, bl_append, bl_append]; simp [spT]; rfl
    rw [e, cutL_at (h a (by simp)), cut_words (by simp) fun w hw => h w (List.mem_cons_of_mem _ hw)]
    rfl
theorem join_no {c : UInt8} (hc : c ≠ 32) : ∀ {ws : List ByteArray}, (∀ w, w ∈ ws → c ∉ bl w) → c ∉ bl (joinW ws)
  | [], _ => by simp [joinW, nilT]
  | [a], h => by simp only [joinW]; exact h a (by simp)
  | a :: b :: r, h => by
    rw [joinW, bl_append, bl_append]
    intro hm
    rcases List.mem_append.1 hm with hm | hm
    · rcases List.mem_append.1 hm with hm | hm
      · exact h a (by simp) hm
      · have : c = 32 := by simpa [spT] using hm
        exact hc this
    · exact join_no hc (fun w hw => h w (List.mem_cons_of_mem _ hw)) hm
/-- What no word holds. -/
theorem dec_plain {a : Int} (h : 0 ≤ a) {c : UInt8} (hc : c = 32 ∨ c = 10) : c ∉ bl (decZ a) := by
  have e : decZ a = decN a.toNat := by unfold decZ; rw [if_neg (by omega)]
  rw [e]
  intro hm
  have := decL_digits a.toNat c hm
  rcases hc with rfl | rfl <;> simp at this
theorem hexD_plain : ∀ n : Fin 16, hexD n.val ≠ 32 ∧ hexD n.val ≠ 10 := by decide
theorem hexL_plain {c : UInt8} (hc : c = 32 ∨ c = 10) : ∀ l : List UInt8, c ∉ hexL l
  | [] => by simp [hexL]
  | x :: r => by
    have e : hexL (x :: r) = hexD (x.toNat / 16) :: hexD (x.toNat % 16) :: hexL r := by simp [hexL, List.flatMap_cons]
    have hx := x.toNat_lt
    have h1 := hexD_plain ⟨x.toNat / 16, by omega⟩
    have h2 := hexD_plain ⟨x.toNat % 16, by omega⟩
    rw [e]
    intro hm
    rcases List.mem_cons.1 hm with hm | hm
    · rcases hc with rfl | rfl
      · exact h1.1 hm.symm
      · exact h1.2 hm.symm
    · rcases List.mem_cons.1 hm with hm | hm
      · rcases hc with rfl | rfl
        · exact h2.1 hm.symm
        · exact h2.2 hm.symm
      · exact hexL_plain hc r hm
theorem data_plain (t : ByteArray) {c : UInt8} (hc : c = 32 ∨ c = 10) : c ∉ bl (dataT t) := by
  unfold dataT
  split
  · rcases hc with rfl | rfl <;> simp
  · exact hexL_plain hc _
theorem en_path {x : En} (h : enB x = true) : okMk (x.1, false) := by
  simp only [enB, Bool.and_eq_true, inB, decide_eq_true_eq] at h
  exact ⟨allNames_ok h.1.1, by have := h.1.2.2; simp only; omega⟩
theorem words_plain {x : En} (h : enB x = true) {c : UInt8} (hc : c = 32 ∨ c = 10) : ∀ w, w ∈ wordsE x → c ∉ bl w := by
  have hp := path_no (en_path h) hc
  have hd := dec_plain (en_small h).2.1.1 hc
  have ht := data_plain x.2.2.2.2 hc
  have k1 : c ∉ bl goneT ∧ c ∉ bl newdirT ∧ c ∉ bl newT ∧ c ∉ bl modeT ∧ c ∉ bl dataW := by rcases hc with rfl | rfl <;> decide
  intro w hw
  unfold wordsE at hw
  split at hw
  · simp only [List.mem_cons, List.mem_nil_iff, or_false] at hw
    rcases hw with rfl | rfl
    · exact k1.1
    · exact hp
  · split at hw
    · simp only [List.mem_cons, List.mem_nil_iff, or_false] at hw
      rcases hw with rfl | rfl | rfl
      · exact k1.2.2.2.1
      · exact hp
      · exact hd
    · split at hw
      · simp only [List.mem_cons, List.mem_nil_iff, or_false] at hw
        rcases hw with rfl | rfl | rfl
        · exact k1.2.2.2.2
        · exact hp
        · exact ht
      · split at hw
        · simp only [List.mem_cons, List.mem_nil_iff, or_false] at hw
          rcases hw with rfl | rfl | rfl
          · exact k1.2.1
          · exact hp
          · exact hd
        · simp only [List.mem_cons, List.mem_nil_iff, or_false] at hw
          rcases hw with rfl | rfl | rfl | rfl
          · exact k1.2.2.1
          · exact hp
          · exact hd
          · exact ht
theorem words_ne (x : En) : wordsE x ≠ [] := by
  unfold wordsE
  split <;> (try split) <;> (try split) <;> (try split) <;> simp
theorem cut_line {x : En} (h : enB x = true) : cutS 32 (lineB x) = wordsE x := by
  rw [cutS, lineB, cut_words (words_ne x) (words_plain h (.inl rfl)), map_ofL_bl]
theorem line_no {x : En} (h : enB x = true) : (10 : UInt8) ∉ bl (lineB x) := join_no (by decide) (words_plain h (.inr rfl))

/-! ### Words read -/
def dgN (b : UInt8) : Nat := if 48 ≤ b.toNat ∧ b.toNat ≤ 57 then b.toNat - 48 else if 97 ≤ b.toNat ∧ b.toNat ≤ 102 then b.toNat - 87 else 99
def nbI (b : UInt8) : Int := if 48 ≤ b.toNat ∧ b.toNat ≤ 57 then b.toNat - 48 else if 97 ≤ b.toNat ∧ b.toNat ≤ 102 then b.toNat - 87 else if 65 ≤ b.toNat ∧ b.toNat ≤ 70 then b.toNat - 55 else -1
theorem dg_hex : ∀ n : Fin 16, dgN (hexD n.val) = n.val ∧ nbI (hexD n.val) = (n.val : Int) := by decide
theorem nb_le (b : UInt8) : -1 ≤ nbI b ∧ nbI b ≤ 15 := by
  unfold nbI
  split
  · omega
  · split
    · omega
    · split <;> omega
def unhexL : List UInt8 → List UInt8
  | a :: b :: r => if 0 ≤ nbI a ∧ 0 ≤ nbI b then UInt8.ofNat (16 * nbI a + nbI b).toNat :: unhexL r else []
  | _ => []
def bytesL : List UInt8 → Option (List UInt8)
  | [] => some []
  | [_] => none
  | a :: b :: r => if dgN a ≤ 15 ∧ dgN b ≤ 15 then (bytesL r).map (UInt8.ofNat (16 * dgN a + dgN b) :: ·) else none
theorem unhex_hex : ∀ l : List UInt8, unhexL (hexL l) = l
  | [] => rfl
  | x :: r => by
    have e : hexL (x :: r) = hexD (x.toNat / 16) :: hexD (x.toNat % 16) :: hexL r := by simp [hexL, List.flatMap_cons]
    have hx := x.toNat_lt
    have h1 := (dg_hex ⟨x.toNat / 16, by omega⟩).2
    have h2 := (dg_hex ⟨x.toNat % 16, by omega⟩).2
    simp only at h1 h2
    rw [e, unhexL, h1, h2, if_pos (by omega), unhex_hex r]
    congr 1
    have : (16 * ((x.toNat / 16 : Nat) : Int) + ((x.toNat % 16 : Nat) : Int)).toNat = x.toNat := by omega
    rw [this]; exact UInt8.ofNat_toNat
theorem bytes_hex : ∀ l : List UInt8, bytesL (hexL l) = some l
  | [] => rfl
  | x :: r => by
    have e : hexL (x :: r) = hexD (x.toNat / 16) :: hexD (x.toNat % 16) :: hexL r := by simp [hexL, List.flatMap_cons]
    have hx := x.toNat_lt
    have h1 := (dg_hex ⟨x.toNat / 16, by omega⟩).1
    have h2 := (dg_hex ⟨x.toNat % 16, by omega⟩).1
    simp only at h1 h2
    rw [e, bytesL, h1, h2, if_pos (by omega), bytes_hex r]
    have : 16 * (x.toNat / 16) + x.toNat % 16 = x.toNat := by omega
    rw [this, UInt8.ofNat_toNat]; rfl
def dataI (s : ByteArray) : ByteArray := ofL (unhexL (bl s))
def bytesS (s : ByteArray) : ByteArray × Bool := if s = dashT then (nilT, true) else if s.size % 2 = 1 ∨ s = nilT then (nilT, false) else match bytesL (bl s) with
  | some l => (ofL l, true)
  | none => (nilT, false)
theorem dataI_T (t : ByteArray) : dataI (dataT t) = t := by
  unfold dataT
  split
  · rename_i h
    apply bl_inj
    rw [List.eq_nil_of_length_eq_zero ((size_bl t).trans h)]; rfl
  · rw [dataI, bl_ofL, unhex_hex, ofL_bl]
theorem bytesS_T (t : ByteArray) : bytesS (dataT t) = (t, true) := by
  unfold dataT
  split
  · rename_i h
    have e : t = nilT := bl_inj (List.eq_nil_of_length_eq_zero ((size_bl t).trans h))
    rw [bytesS, if_pos (show (⟨#[45]⟩ : ByteArray) = dashT from rfl), e]
  · rename_i h
    have hl := hexL_len (bl t)
    rw [size_bl] at hl
    have hne : ¬ ofL (hexL (bl t)) = dashT := fun e => by
      have := congrArg ByteArray.size e
      rw [size_ofL, hl] at this
      have e2 : dashT.size = 1 := rfl
      omega
    have hne2 : ¬ ofL (hexL (bl t)) = nilT := fun e => by
      have := congrArg ByteArray.size e
      rw [size_ofL, hl] at this
      have e2 : nilT.size = 0 := rfl
      omega
    rw [bytesS, if_neg hne, if_neg (by rw [size_ofL, hl]; rintro (h | h); omega; exact hne2 h), bl_ofL, bytes_hex]
    simp only [ofL_bl]
theorem unhex_len : ∀ (n : Nat) (l : List UInt8), l.length ≤ n → (unhexL l).length ≤ l.length
  | 0, l, h => by
    have : l = [] := List.eq_nil_of_length_eq_zero (by omega)
    subst this; simp [unhexL]
  | n + 1, [], _ => by simp [unhexL]
  | n + 1, [a], _ => by simp [unhexL]
  | n + 1, a :: b :: r, h => by
    rw [unhexL]
    split
    · have := unhex_len n r (by simp at h; omega)
      simp; omega
    · simp
theorem bytes_len : ∀ (n : Nat) (l m : List UInt8), l.length ≤ n → bytesL l = some m → m.length ≤ l.length
  | 0, l, m, h, hm => by
    have : l = [] := List.eq_nil_of_length_eq_zero (by omega)
    subst this
    simp [bytesL] at hm; subst hm; simp
  | n + 1, [], m, _, hm => by simp [bytesL] at hm; subst hm; simp
  | n + 1, [a], m, _, hm => by simp [bytesL] at hm
  | n + 1, a :: b :: r, m, h, hm => by
    rw [bytesL] at hm
    split at hm
    · obtain ⟨q, hq, rfl⟩ := Option.map_eq_some_iff.1 hm
      have := bytes_len n r q (by simp at h; omega) hq
      simp; omega
    · cases hm
theorem dataI_size (s : ByteArray) : (dataI s).size ≤ s.size := by
  rw [dataI, size_ofL]
  have := unhex_len _ (bl s) (Nat.le_refl _)
  rw [size_bl] at this; exact this
theorem bytesS_size (s : ByteArray) : (bytesS s).1.size ≤ s.size := by
  unfold bytesS
  split
  · show 0 ≤ _; omega
  · split
    · show 0 ≤ _; omega
    · split
      · rename_i l hl
        rw [size_ofL]
        have := bytes_len _ (bl s) l (Nat.le_refl _) hl
        rw [size_bl] at this; exact this
      · show 0 ≤ _; omega
def modeS (s : ByteArray) : Int :=
  match bl s with
  | [b] => if 48 ≤ b.toNat ∧ b.toNat ≤ 55 then (b.toNat : Int) - 48 else -1
  | _ => -1
theorem modeS_le (s : ByteArray) : -1 ≤ modeS s ∧ modeS s ≤ 7 := by
  unfold modeS
  split
  · split <;> omega
  · omega
theorem modeS_dec {a : Int} (h : 0 ≤ a ∧ a ≤ 7) : modeS (decZ a) = a := by
  obtain ⟨k, rfl⟩ : ∃ k : Nat, a = k := ⟨a.toNat, by omega⟩
  rw [decZ_nat]
  have e : bl (decN k) = [dig k] := by rw [decN, bl_ofL, decL_small (by omega)]
  unfold modeS
  rw [e]
  have := dig_toNat k
  simp only
  rw [if_pos (by omega)]; omega
/-- A number as the library reads it. -/
def numI (s : ByteArray) : Int :=
  match Lib.atoiAll (bl s) with
  | .ok v => v
  | .range => Lib.atoiSat (bl s)
  | _ => 0
theorem numI_dec {a : Int} (h : 0 ≤ a ∧ a ≤ 7) : numI (decZ a) = a := by
  have hall : ∀ k : Fin 8, numI (decZ (k.val : Int)) = (k.val : Int) := by
    intro k
    have e : bl (decZ (k.val : Int)) = [dig k.val] := by rw [decZ_nat, decN, bl_ofL, decL_small (by omega)]
    unfold numI
    rw [e]
    clear e
    revert k
    decide
  obtain ⟨k, rfl⟩ : ∃ k : Nat, a = k := ⟨a.toNat, by omega⟩
  exact hall ⟨k, by omega⟩

/-! ### A line, as the program reads it -/
def wordAt (l : ByteArray) (j : Nat) : ByteArray := ((cutS 32 l ++ [nilT, nilT, nilT])[j]?).getD nilT
def eI (l : ByteArray) : En :=
  if wordAt l 0 = goneT then (pathI (wordAt l 1), 1, false, 0, nilT)
  else if wordAt l 0 = newdirT then (pathI (wordAt l 1), 2, true, numI (wordAt l 2), nilT)
  else if wordAt l 0 = newT then (pathI (wordAt l 1), 2, false, numI (wordAt l 2), dataI (wordAt l 3))
  else if wordAt l 0 = modeT then (pathI (wordAt l 1), 3, false, numI (wordAt l 2), nilT)
  else if wordAt l 0 = dataW then (pathI (wordAt l 1), 4, false, 0, dataI (wordAt l 2))
  else (pathI (wordAt l 1), 0, false, 0, nilT)
theorem w_ne : goneT ≠ newdirT ∧ goneT ≠ newT ∧ goneT ≠ modeT ∧ goneT ≠ dataW ∧ newdirT ≠ newT ∧ newdirT ≠ modeT ∧ newdirT ≠ dataW ∧ newT ≠ modeT ∧ newT ≠ dataW ∧ modeT ≠ dataW := by
  have h : ∀ {a b : ByteArray}, bl a ≠ bl b → a ≠ b := fun h e => h (by rw [e])
  refine ⟨h (by decide), h (by decide), h (by decide), h (by decide), h (by decide), h (by decide), h (by decide), h (by decide), h (by decide), h (by decide)⟩
/-- A sound entry is of one of five kinds. -/
theorem en_kinds {x : En} (h : enB x = true) : (x.2 = (1, false, 0, nilT)) ∨ (∃ a, x.2 = (2, true, a, nilT) ∧ 0 ≤ a ∧ a ≤ 7) ∨ (∃ a t, x.2 = (2, false, a, t) ∧ 0 ≤ a ∧ a ≤ 7) ∨ (∃ a, x.2 = (3, false, a, nilT) ∧ 0 ≤ a ∧ a ≤ 7) ∨ (∃ t, x.2 = (4, false, 0, t)) := by
  obtain ⟨p, k, d, a, t⟩ := x
  have hs := (en_small h).2.1
  simp only [enB, Bool.and_eq_true, decide_eq_true_eq] at h
  have h5 := h.2.2.2
  simp only [kindB] at h5
  simp only at hs ⊢
  split at h5
  · rename_i e
    simp only [Bool.and_eq_true, Bool.not_eq_true', decide_eq_true_eq] at h5
    obtain ⟨h1, h2, h3⟩ := h5
    exact .inl (by rw [e, h1, h2, h3]; rfl)
  · split at h5
    · rename_i e
      cases d
      · exact .inr (.inr (.inl ⟨a, t, by rw [e], hs.1, hs.2⟩))
      · have h3 : t = nilT := by simpa [nilT] using h5
        exact .inr (.inl ⟨a, by rw [e, h3], hs.1, hs.2⟩)
    · split at h5
      · rename_i e
        simp only [Bool.and_eq_true, Bool.not_eq_true', decide_eq_true_eq] at h5
        exact .inr (.inr (.inr (.inl ⟨a, by rw [e, h5.1, h5.2]; rfl, hs.1, hs.2⟩)))
      · split at h5
        · rename_i e
          simp only [Bool.and_eq_true, Bool.not_eq_true', decide_eq_true_eq] at h5
          exact .inr (.inr (.inr (.inr ⟨t, by rw [e, h5.1, h5.2]⟩)))
        · cases h5
theorem eI_line {x : En} (h : enB x = true) : eI (lineB x) = x := by
  have hc := cut_line h
  have hp := (path_back (en_path h)).1
  simp only at hp
  obtain ⟨n1, n2, n3, n4, n5, n6, n7, n8, n9, n10⟩ := w_ne
  obtain ⟨p, r⟩ := x
  have hw : ∀ j, wordAt (lineB (p, r)) j = ((wordsE (p, r) ++ [nilT, nilT, nilT])[j]?).getD nilT := fun j => by rw [wordAt, hc]
  unfold eI
  rcases en_kinds h with e | ⟨a, e, ha⟩ | ⟨a, t, e, ha⟩ | ⟨a, e, ha⟩ | ⟨t, e⟩
  · simp only at e
    subst e
    have ew : wordsE (p, 1, false, 0, nilT) = [goneT, pathT p] := rfl
    rw [hw, hw, ew]
    simp only [List.cons_append, List.nil_append, List.getElem?_cons_zero, List.getElem?_cons_succ, Option.getD_some, if_true]
    rw [hp]
  · simp only at e
    subst e
    have ew : wordsE (p, 2, true, a, nilT) = [newdirT, pathT p, decZ a] := rfl
    rw [hw, hw, hw, ew]
    simp only [List.cons_append, List.nil_append, List.getElem?_cons_zero, List.getElem?_cons_succ, Option.getD_some]
    rw [if_neg n1.symm, if_pos trivial, hp, numI_dec ha]
  · simp only at e
    subst e
    have ew : wordsE (p, 2, false, a, t) = [newT, pathT p, decZ a, dataT t] := rfl
    rw [hw, hw, hw, hw, ew]
    simp only [List.cons_append, List.nil_append, List.getElem?_cons_zero, List.getElem?_cons_succ, Option.getD_some]
    rw [if_neg n2.symm, if_neg n5.symm, if_pos trivial, hp, numI_dec ha, dataI_T]
  · simp only at e
    subst e
    have ew : wordsE (p, 3, false, a, nilT) = [modeT, pathT p, decZ a] := rfl
    rw [hw, hw, hw, ew]
    simp only [List.cons_append, List.nil_append, List.getElem?_cons_zero, List.getElem?_cons_succ, Option.getD_some]
    rw [if_neg n3.symm, if_neg n6.symm, if_neg n8.symm, if_pos trivial, hp, numI_dec ha]
  · simp only at e
    subst e
    have ew : wordsE (p, 4, false, 0, t) = [dataW, pathT p, dataT t] := rfl
    rw [hw, hw, hw, ew]
    simp only [List.cons_append, List.nil_append, List.getElem?_cons_zero, List.getElem?_cons_succ, Option.getD_some]
    rw [if_neg n4.symm, if_neg n7.symm, if_neg n9.symm, if_neg n10.symm, if_pos trivial, hp, dataI_T]

/-! ### A text -/
theorem bl_ofLs' (l : List (List UInt8)) : (l.map ofL).map bl = l := by rw [List.map_map]; exact List.map_id' l
def linesT (text : ByteArray) : List ByteArray := (cutS 10 text).take ((cutS 10 text).length - 1)
def parE (text : ByteArray) : List En := (linesT text).map eI
noncomputable def readE (text : ByteArray) : List En × Bool := if text.size ≤ 6000 ∧ allB enB (parE text) = true ∧ layT (parE text) = text then (parE text, true) else ([], false)
theorem bl_layT : ∀ xs : List En, bl (layT xs) = (xs.map fun x => bl (lineB x) ++ [10]).flatten
  | [] => rfl
  | x :: r => by
    have e : layT (x :: r) = lineE x ++ layT r := rfl
    rw [e, bl_append, bl_layT r, lineE_B, bl_append]; rfl
theorem cut_layT : ∀ {xs : List En}, (∀ x, x ∈ xs → enB x = true) → cutS 10 (layT xs) = xs.map lineB ++ [nilT]
  | xs, h => by
    have : ∀ {xs : List En}, (∀ x, x ∈ xs → enB x = true) → cutL 10 ((xs.map fun x => bl (lineB x) ++ [10]).flatten) = xs.map (fun x => bl (lineB x)) ++ [[]] := by
      intro xs
      induction xs with
      | nil => intro _; rfl
      | cons x r ih =>
        intro h
        have e : ((x :: r).map fun x => bl (lineB x) ++ [10]).flatten = bl (lineB x) ++ 10 :: (r.map fun x => bl (lineB x) ++ [10]).flatten := by simp
        rw [e, cutL_at (line_no (h x (by simp))), ih fun y hy => h y (by simp [hy])]
        rfl
    rw [cutS, bl_layT, this h, List.map_append, List.map_map]
    have e2 : (ofL ∘ fun x => bl (lineB x)) = lineB := by funext x; exact ofL_bl _
    rw [e2]; rfl
theorem layT_lines {xs : List En} (h : ∀ x, x ∈ xs → enB x = true) : linesT (layT xs) = xs.map lineB ∧ (cutS 10 (layT xs)).getLast? = some nilT := by
  unfold linesT
  rw [cut_layT h]
  refine ⟨?_, by simp⟩
  rw [List.length_append, List.length_singleton, Nat.add_sub_cancel, List.take_left']
  rfl
theorem par_layT {xs : List En} (h : ∀ x, x ∈ xs → enB x = true) : parE (layT xs) = xs := by
  unfold parE
  rw [(layT_lines h).1, List.map_map]
  conv => rhs; rw [← List.map_id xs]
  exact List.map_congr_left fun x hx => eI_line (h x hx)
theorem cut_join {c : UInt8} : ∀ (n : Nat) (l : List UInt8), l.length ≤ n → l = (((cutL c l).dropLast).map (· ++ [c])).flatten ++ ((cutL c l).getLast?).getD []
  | n, l, h => by
    by_cases hc : c ∈ l
    · obtain ⟨a, r, rfl, ha⟩ := split_first hc
      rw [cutL_at ha]
      cases n with
      | zero => simp at h
      | succ n =>
        have ih := cut_join (c := c) n r (by simp at h; omega)
        have hne := cutL_ne c r
        cases hcr : cutL c r with
        | nil => exact absurd hcr hne
        | cons x q =>
          rw [hcr] at ih
          rw [List.dropLast_cons_cons, List.map_cons, List.flatten_cons, List.getLast?_cons_cons]
          conv => lhs; rw [ih]
          simp
    · rw [cutL_none hc]; simp
theorem text_of {text : ByteArray} {xs : List En} (hl : linesT text = xs.map lineB) (hlast : (cutS 10 text).getLast? = some nilT) : layT xs = text := by
  apply bl_inj
  have hj := cut_join (c := 10) _ (bl text) (Nat.le_refl _)
  have hne := cutL_ne 10 (bl text)
  have e1 : (cutL 10 (bl text)).dropLast = (linesT text).map bl := by
    unfold linesT
    rw [cutS, List.length_map, ← List.map_take, bl_ofLs', List.dropLast_eq_take]
  have e2 : ((cutL 10 (bl text)).getLast?).getD [] = [] := by
    have : (cutS 10 text).getLast? = ((cutL 10 (bl text)).getLast?).map ofL := by rw [cutS, List.getLast?_map]
    rw [this] at hlast
    cases hg : (cutL 10 (bl text)).getLast? with
    | none => rfl
    | some z =>
      rw [hg] at hlast
      simp only [Option.map_some, Option.some.injEq] at hlast
      have := congrArg bl hlast
      rw [bl_ofL] at this
      exact this
  rw [e1, e2, hl, List.append_nil] at hj
  rw [hj, bl_layT, List.map_map, List.map_map]
  rfl
theorem read_yes {text : ByteArray} {xs : List En} (hs : text.size ≤ 6000) (h : ∀ x, x ∈ xs → enB x = true) (ht : layT xs = text) : readE text = (xs, true) := by
  have hp : parE text = xs := by rw [← ht]; exact par_layT h
  rw [readE, hp, if_pos ⟨hs, allB_iff.2 fun j x hj => h x (List.mem_of_getElem? hj), ht⟩]
theorem read_no {text : ByteArray} (h : ¬ ∃ xs : List En, (∀ x, x ∈ xs → enB x = true) ∧ layT xs = text) : readE text = ([], false) := by
  rw [readE, if_neg]
  rintro ⟨_, h1, h2⟩
  refine h ⟨_, fun x hx => ?_, h2⟩
  obtain ⟨j, hj⟩ := List.getElem?_of_mem hx
  exact allB_iff.1 h1 j x hj
end Go.Proofs.YtkbhjejalkbogaaGreatDoor

/- 'LayerRead': words read, by either hand. -/
set_option linter.unusedVariables false
set_option linter.unusedSimpArgs false
set_option maxRecDepth 20000
namespace Go.Proofs.YtkbhjejalkbogaaGreatDoor
open Go Go.Av Go.RowKit

open IntWalk in
theorem pBin_sub8 {P : Program} {T : Nat} {a b : Int} {K : Value → Prop} (h : 0 ≤ a - b ∧ a - b ≤ 255) : pBin P T .sub (.int .u8 a) (.int .u8 b) K ↔ K (.int .u8 (a - b)) :=
  pBin_i (by simp only [aint]; rw [u8_in _ h])

section
variable {w0 : World} {σ : Vw}

theorem spec_Mode {s : ByteArray} (hs : s.size ≤ 1048576) {R : Value → Vw → Prop} (hR : R (.int .i64 (modeS s)) σ) : AC Tryz.prog w0 n_spec_l3Mode [.string s] σ R := by
  refine ac_spec_l3Mode ?_
  unfold vc_spec_l3Mode
  rw [pLenS_s, pBin_ne, pIf_d]
  refine ⟨fun h => ?_, fun h => ?_⟩
  · have : modeS s = -1 := by
      unfold modeS
      split
      · rename_i b e
        have := congrArg List.length e
        rw [size_bl] at this
        simp at this; omega
      · rfl
    rw [this] at hR; exact hR
  · have h1 : s.size = 1 := by omega
    have hg := bl_get s 0 (by omega)
    generalize hx : s[0]'(by omega) = x at hg
    have e : bl s = [x] := by
      match hb : bl s with
      | [] => rw [hb] at hg; simp at hg
      | [y] => rw [hb] at hg; simp at hg; rw [hg]
      | y :: z :: r => have := size_bl s; rw [hb] at this; simp at this; omega
    have hm : modeS s = if 48 ≤ x.toNat ∧ x.toNat ≤ 55 then (x.toNat : Int) - 48 else -1 := by unfold modeS; rw [e]
    have hx2 := x.toNat_lt
    have idx : ∀ {K : Value → Prop}, K (.int .u8 (x.toNat : Int)) → pIndexStr (.string s) (.int .i64 0) K := fun hK => pIndexStr_s (j := 0) (by omega) (by rw [hx]; exact hK)
    refine idx ?_
    rw [pBin_lt, pIf_d]
    refine ⟨fun h => ?_, fun h => ?_⟩
    · rw [hm, if_neg (by omega)] at hR; exact hR
    refine idx ?_
    rw [pBin_gt, pIf_d]
    refine ⟨fun h' => ?_, fun h' => ?_⟩
    · rw [hm, if_neg (by omega)] at hR; exact hR
    refine idx ?_
    rw [pBin_sub8 (by omega), pConv_i64 (by omega)]
    rw [hm, if_pos (by omega)] at hR; exact hR

theorem spec_Digit {x : UInt8} {R : Value → Vw → Prop} (hR : R (.int .i64 (dgN x : Nat)) σ) : AC Tryz.prog w0 n_spec_l1Digit [.int .u8 (x.toNat : Int)] σ R := by
  have hx := x.toNat_lt
  have fin : ∀ n : Int, n = (dgN x : Nat) → R (.int .i64 n) σ := fun n h => h ▸ hR
  clear hR
  refine ac_spec_l1Digit ?_
  unfold vc_spec_l1Digit
  have A : ¬ (48 ≤ x.toNat ∧ x.toNat ≤ 57) → pBin Tryz.prog 5 .geq (.int .u8 (x.toNat : Int)) (.int .u8 97) (fun v4 => pIf v4 (pBin Tryz.prog 5 .leq (.int .u8 (x.toNat : Int)) (.int .u8 102) (fun v5 => pIf v5 (pBin Tryz.prog 5 .sub (.int .u8 (x.toNat : Int)) (.int .u8 97) (fun v6 => pConvInt .i64 v6 (fun v7 => pBin Tryz.prog 3 .add v7 (.int .i64 10) (fun v8 => R v8 σ)))) (R (.int .i64 99) σ))) (R (.int .i64 99) σ)) := fun hn => by
    rw [pBin_ge, pIf_d]
    refine ⟨fun h => ?_, fun h => fin _ (by unfold dgN; rw [if_neg hn, if_neg (by omega)]; rfl)⟩
    rw [pBin_le, pIf_d]
    refine ⟨fun h' => ?_, fun h' => fin _ (by unfold dgN; rw [if_neg hn, if_neg (by omega)]; rfl)⟩
    rw [pBin_sub8 (by omega), pConv_i64 (by omega), pBin_add (by omega)]
    exact fin _ (by unfold dgN; rw [if_neg hn, if_pos (by omega)]; omega)
  rw [pBin_ge, pIf_d]
  refine ⟨fun h => ?_, fun h => A (by omega)⟩
  rw [pBin_le, pIf_d]
  refine ⟨fun h' => ?_, fun h' => A (by omega)⟩
  rw [pBin_sub8 (by omega), pConv_i64 (by omega)]
  exact fin _ (by unfold dgN; rw [if_pos (by omega)]; omega)

theorem drop_two {l : List UInt8} {i : Nat} {a b : UInt8} (ha : l[i]? = some a) (hb : l[i + 1]? = some b) : l.drop i = a :: b :: l.drop (i + 2) := by
  obtain ⟨h1, e1⟩ := List.getElem?_eq_some_iff.1 ha
  obtain ⟨h2, e2⟩ := List.getElem?_eq_some_iff.1 hb
  rw [List.drop_eq_getElem_cons h1, List.drop_eq_getElem_cons h2, e1, e2]

theorem spec_Bytes {s : ByteArray} (hs : s.size ≤ 1048576) {R : Value → Vw → Prop} (hR : ∀ σ', Keeps σ σ' → R (.tuple ⟨[.string (bytesS s).1, .bool (bytesS s).2]⟩) σ') : AC Tryz.prog w0 n_spec_l1Bytes [.string s] σ R := by
  refine ac_spec_l1Bytes ?_
  unfold vc_spec_l1Bytes
  intro b h1 h2
  have kb : Keeps σ (σ.put b ⟨t_uint8, [], 0, (0, 0)⟩) := Keeps.put h2
  have hb0 : ∀ i, i ∈ [b] → σ i = none := fun i hi => by rw [List.mem_singleton.1 hi]; exact h2
  show pBin Tryz.prog 9 .eql (.string s) (.string dashT) _
  rw [pBin_seq, pIf_d]
  refine ⟨fun h => ?_, fun hd => ?_⟩
  · have := hR _ kb
    rw [bytesS, if_pos h] at this; exact this
  have hlen : (bl s).length = s.size := size_bl s
  rw [pLenS_s, pBin_rem (by omega), pBin_eq, pIf_d]
  refine ⟨fun h => ?_, fun hodd => ?_⟩
  · have := hR _ kb
    rw [bytesS, if_neg hd, if_pos (.inl (by omega))] at this; exact this
  show pBin Tryz.prog 9 .eql (.string s) (.string nilT) _
  rw [pBin_seq, pIf_d]
  refine ⟨fun h => ?_, fun hne => ?_⟩
  · have := hR _ kb
    rw [bytesS, if_neg hd, if_pos (.inr h)] at this; exact this
  have hbs : bytesS s = match bytesL (bl s) with | some l => (ofL l, true) | none => (nilT, false) := by
    unfold bytesS
    rw [if_neg hd, if_neg (by rintro (h | h); omega; exact hne h)]
    all_goals rfl
  rw [hbs] at hR
  refine loop_rule (m := s.size) (fun m l st => ∃ (i : Nat) (v : Value) (F : List Nat) (out : List UInt8), s.size ≤ m + i ∧ i % 2 = 0 ∧ Keeps σ st ∧ (∀ j, j ∈ F → σ j = none) ∧ OAcc w0 t_uint8 1 OBy st F v out ∧ out.length ≤ i ∧ bytesL (bl s) = (bytesL ((bl s).drop i)).map (out ++ ·) ∧
      l = [.string s, .string nilT, .bool false, v, .int .i64 (i : Nat)]) ?_
    ⟨0, _, [b], [], by omega, rfl, kb, hb0, OAcc.new h1, by simp, by simp, rfl⟩
  rintro m l st L ⟨i, v, F, out, hm, hev, ks, hF, ho, hol, hL0, rfl⟩ hL
  simp only [vget, List.getD_cons_zero, List.getD_cons_succ]
  rw [pLenS_s, pBin_lt, pIf_d]
  refine ⟨fun hi => ?_, fun hi => ?_⟩
  · have hi1 : i + 1 < s.size := by omega
    have ha := bl_get s i (by omega)
    have hb := bl_get s (i + 1) hi1
    generalize hx : s[i]'(by omega) = x at ha
    generalize hy : s[i + 1]'hi1 = y at hb
    have hdr := drop_two ha hb
    refine pIndexStr_s (by omega) ?_
    rw [hx]
    refine spec_Digit ?_
    rw [pBin_add (by omega)]
    rw [show ((i : Nat) : Int) + 1 = ((i + 1 : Nat) : Int) by omega]
    refine pIndexStr_s hi1 ?_
    rw [hy]
    refine spec_Digit ?_
    have bad : ¬ (dgN x ≤ 15 ∧ dgN y ≤ 15) → R (.tuple ⟨[.string nilT, .bool false]⟩) st := fun hn => by
      have := hR st ks
      rw [hL0, hdr, bytesL, if_neg hn] at this; exact this
    rw [pBin_gt, pIf_d]
    refine ⟨fun h => bad (by omega), fun hA => ?_⟩
    rw [pBin_gt, pIf_d]
    refine ⟨fun h => bad (by omega), fun hB => ?_⟩
    rw [pBin_mul (by omega), pBin_add (by omega), pConv_u8 (by omega), pVal1 rfl]
    have hb8 : ((UInt8.ofNat (16 * dgN x + dgN y)).toNat : Int) = 16 * ((dgN x : Nat) : Int) + ((dgN y : Nat) : Int) := by
      rw [UInt8.toNat_ofNat_of_lt' (by show _ < 256; omega)]; omega
    rw [← hb8]
    refine ho.one (ok_by w0) (y := UInt8.ofNat (16 * dgN x + dgN y)) (f := []) ⟨rfl, rfl, trivial⟩ (by simp) (by omega) (by omega) fun v' F' s' k' o' f' => ?_
    rw [pBin_add (by omega)]
    refine hL _ _ (m - 1) (by omega) ⟨i + 2, v', F', _, by omega, by omega, k'.old ks hF, fresh_in ks hF fun j hj => ?_, o', by simp; omega, ?_, by simp⟩
    · rcases f' j hj with h | h | h
      · exact .inl h
      · cases h
      · exact .inr h
    · rw [hL0, hdr, bytesL, if_pos (by omega), Option.map_map]
      congr 1
      funext z
      simp
  · have hn : (bl s).drop i = [] := List.drop_eq_nil_of_le (by omega)
    rw [hn, bytesL] at hL0
    simp only [Option.map_some, List.append_nil] at hL0
    have := hR st ks
    rw [hL0] at this
    exact pStr_own ho.osl this

/-! ### .. by the program's -/
theorem impl_nibble {x : UInt8} {R : Value → Vw → Prop} (hR : R (.int .i64 (nbI x)) σ) : AC Tryz.prog w0 n_impl_nibble [.int .u8 (x.toNat : Int)] σ R := by
  have hx := x.toNat_lt
  have fin : ∀ n : Int, n = nbI x → R (.int .i64 n) σ := fun n h => h ▸ hR
  clear hR
  refine ac_impl_nibble ?_
  unfold vc_impl_nibble cs_impl_nibble_1
  have B : ¬ (48 ≤ x.toNat ∧ x.toNat ≤ 57) → ¬ (97 ≤ x.toNat ∧ x.toNat ≤ 102) → pBin Tryz.prog 5 .geq (.int .u8 (x.toNat : Int)) (.int .u8 65) (fun v9 => pIf v9 (pBin Tryz.prog 5 .leq (.int .u8 (x.toNat : Int)) (.int .u8 70) (fun v10 => pIf v10 (pBin Tryz.prog 5 .sub (.int .u8 (x.toNat : Int)) (.int .u8 65) (fun v11 => pConvInt .i64 v11 (fun v12 => pBin Tryz.prog 3 .add v12 (.int .i64 10) (fun v13 => R v13 σ)))) (R (.int .i64 (-1)) σ))) (R (.int .i64 (-1)) σ)) := fun hn hm => by
    rw [pBin_ge, pIf_d]
    refine ⟨fun h => ?_, fun h => fin _ (by unfold nbI; rw [if_neg hn, if_neg hm, if_neg (by omega)])⟩
    rw [pBin_le, pIf_d]
    refine ⟨fun h' => ?_, fun h' => fin _ (by unfold nbI; rw [if_neg hn, if_neg hm, if_neg (by omega)])⟩
    rw [pBin_sub8 (by omega), pConv_i64 (by omega), pBin_add (by omega)]
    exact fin _ (by unfold nbI; rw [if_neg hn, if_neg hm, if_pos (by omega)]; omega)
  have A : ¬ (48 ≤ x.toNat ∧ x.toNat ≤ 57) → pBin Tryz.prog 5 .geq (.int .u8 (x.toNat : Int)) (.int .u8 97) (fun v4 => pIf v4 (pBin Tryz.prog 5 .leq (.int .u8 (x.toNat : Int)) (.int .u8 102) (fun v5 => pIf v5 (pBin Tryz.prog 5 .sub (.int .u8 (x.toNat : Int)) (.int .u8 97) (fun v6 => pConvInt .i64 v6 (fun v7 => pBin Tryz.prog 3 .add v7 (.int .i64 10) (fun v8 => R v8 σ))))
      (pBin Tryz.prog 5 .geq (.int .u8 (x.toNat : Int)) (.int .u8 65) (fun v9 => pIf v9 (pBin Tryz.prog 5 .leq (.int .u8 (x.toNat : Int)) (.int .u8 70) (fun v10 => pIf v10 (pBin Tryz.prog 5 .sub (.int .u8 (x.toNat : Int)) (.int .u8 65) (fun v11 => pConvInt .i64 v11 (fun v12 => pBin Tryz.prog 3 .add v12 (.int .i64 10) (fun v13 => R v13 σ)))) (R (.int .i64 (-1)) σ))) (R (.int .i64 (-1)) σ)))))
      (pBin Tryz.prog 5 .geq (.int .u8 (x.toNat : Int)) (.int .u8 65) (fun v9 => pIf v9 (pBin Tryz.prog 5 .leq (.int .u8 (x.toNat : Int)) (.int .u8 70) (fun v10 => pIf v10 (pBin Tryz.prog 5 .sub (.int .u8 (x.toNat : Int)) (.int .u8 65) (fun v11 => pConvInt .i64 v11 (fun v12 => pBin Tryz.prog 3 .add v12 (.int .i64 10) (fun v13 => R v13 σ)))) (R (.int .i64 (-1)) σ))) (R (.int .i64 (-1)) σ)))) := fun hn => by
    rw [pBin_ge, pIf_d]
    refine ⟨fun h => ?_, fun h => B hn (by omega)⟩
    rw [pBin_le, pIf_d]
    refine ⟨fun h' => ?_, fun h' => B hn (by omega)⟩
    rw [pBin_sub8 (by omega), pConv_i64 (by omega), pBin_add (by omega)]
    exact fin _ (by unfold nbI; rw [if_neg hn, if_pos (by omega)]; omega)
  rw [pBin_ge, pIf_d]
  refine ⟨fun h => ?_, fun h => A (by omega)⟩
  rw [pBin_le, pIf_d]
  refine ⟨fun h' => ?_, fun h' => A (by omega)⟩
  rw [pBin_sub8 (by omega), pConv_i64 (by omega)]
  exact fin _ (by unfold nbI; rw [if_pos (by omega)])

theorem impl_dataRead {s : ByteArray} (hs : s.size ≤ 1048576) {R : Value → Vw → Prop} (hR : ∀ σ', Keeps σ σ' → R (.string (dataI s)) σ') : AC Tryz.prog w0 n_impl_dataRead [.string s] σ R := by
  refine ac_impl_dataRead ?_
  unfold vc_impl_dataRead
  refine ac_impl_unhex ?_
  unfold vc_impl_unhex
  intro b h1 h2
  have kb : Keeps σ (σ.put b ⟨t_uint8, [], 0, (0, 0)⟩) := Keeps.put h2
  have hb0 : ∀ i, i ∈ [b] → σ i = none := fun i hi => by rw [List.mem_singleton.1 hi]; exact h2
  have hlen : (bl s).length = s.size := size_bl s
  refine loop_rule (m := s.size) (fun m l st => ∃ (i : Nat) (v : Value) (F : List Nat) (out : List UInt8), s.size ≤ m + i ∧ i ≤ s.size ∧ Keeps σ st ∧ (∀ j, j ∈ F → σ j = none) ∧ OAcc w0 t_uint8 1 OBy st F v out ∧ out.length ≤ i ∧ unhexL (bl s) = out ++ unhexL ((bl s).drop i) ∧
      l = [.string s, v, .int .i64 (i : Nat)]) ?_
    ⟨0, _, [b], [], by omega, by omega, kb, hb0, OAcc.new h1, by simp, by simp, rfl⟩
  rintro m l st L ⟨i, v, F, out, hm, hil, ks, hF, ho, hol, hL0, rfl⟩ hL
  simp only [vget, List.getD_cons_zero, List.getD_cons_succ]
  have done : unhexL ((bl s).drop i) = [] → pStr w0 v st (fun v33 => R v33 st) := fun e => by
    rw [e, List.append_nil] at hL0
    have := hR st ks
    rw [dataI, hL0] at this
    exact pStr_own ho.osl this
  rw [pBin_add (by omega), pLenS_s, pBin_lt, pIf_d]
  refine ⟨fun hi => ?_, fun hi => ?_⟩
  · have hi1 : i + 1 < s.size := by omega
    have ha := bl_get s i (by omega)
    have hb := bl_get s (i + 1) hi1
    generalize hx : s[i]'(by omega) = x at ha
    generalize hy : s[i + 1]'hi1 = y at hb
    have hdr := drop_two ha hb
    have hnx := nb_le x
    have hny := nb_le y
    have ix : ∀ {K : Value → Prop}, K (.int .u8 (x.toNat : Int)) → pIndexStr (.string s) (.int .i64 (i : Nat)) K := fun hK => pIndexStr_s (by omega) (by rw [hx]; exact hK)
    have iy : ∀ {K : Value → Prop}, K (.int .u8 (y.toNat : Int)) → pIndexStr (.string s) (.int .i64 ((i : Nat) + 1)) K := fun hK => by
      rw [show ((i : Nat) : Int) + 1 = ((i + 1 : Nat) : Int) by omega]
      exact pIndexStr_s hi1 (by rw [hy]; exact hK)
    refine ix ?_
    refine impl_nibble ?_
    rw [pBin_ge, pIf_d]
    refine ⟨fun hxp => ?_, fun hxp => done (by rw [hdr, unhexL, if_neg (by omega)])⟩
    rw [pBin_add (by omega)]
    refine iy ?_
    refine impl_nibble ?_
    rw [pBin_ge, pIf_d]
    refine ⟨fun hyp => ?_, fun hyp => done (by rw [hdr, unhexL, if_neg (by omega)])⟩
    refine ix ?_
    rw [pBin_add (by omega)]
    refine iy ?_
    refine impl_nibble ?_
    rw [pBin_mul (by omega)]
    refine impl_nibble ?_
    rw [pBin_add (by omega), pConv_u8 (by omega), pVal1 rfl]
    have hb8 : ((UInt8.ofNat (16 * nbI x + nbI y).toNat).toNat : Int) = 16 * nbI x + nbI y := by
      rw [UInt8.toNat_ofNat_of_lt' (by show _ < 256; omega)]; omega
    rw [← hb8]
    refine ho.one (ok_by w0) (y := UInt8.ofNat (16 * nbI x + nbI y).toNat) (f := []) ⟨rfl, rfl, trivial⟩ (by simp) (by omega) (by omega) fun v' F' s' k' o' f' => ?_
    rw [pBin_add (by omega)]
    refine hL _ _ (m - 1) (by omega) ⟨i + 2, v', F', _, by omega, by omega, k'.old ks hF, fresh_in ks hF fun j hj => ?_, o', by simp; omega, ?_, by simp⟩
    · rcases f' j hj with h | h | h
      · exact .inl h
      · cases h
      · exact .inr h
    · rw [hL0, hdr, unhexL, if_pos (by omega)]; simp
  · refine done ?_
    have : ((bl s).drop i).length ≤ 1 := by rw [List.length_drop]; omega
    match hd : (bl s).drop i, this with
    | [], _ => rfl
    | [z], _ => rfl

/-- The library's two errors are there. -/
def ErrL (w0 : World) : Prop := ∃ tp p tq q, ∀ w, Below w0.heap.size w0 w → w.var? Tryz.prog "strconv.ErrSyntax" = some #[.iface tp p] ∧ w.var? Tryz.prog "strconv.ErrRange" = some #[.iface tq q]
theorem numI_le {s : ByteArray} : -9223372036854775808 ≤ numI s ∧ numI s ≤ 9223372036854775807 := by
  unfold numI
  split
  · rename_i v hv
    unfold Lib.atoiAll at hv
    split at hv
    · cases hv
    · simp only at hv
      split at hv
      · cases hv
      · cases hv
      · rename_i u hu
        split at hv
        · cases hv
        · split at hv
          · cases hv
          · cases hv
            split <;> omega
  · unfold Lib.atoiSat
    split <;> omega
  · omega
theorem impl_numRead (er : ErrL w0) {s : ByteArray} (hs : s.size ≤ 1048576) {R : Value → Vw → Prop} (hR : R (.int .i64 (numI s)) σ) : AC Tryz.prog w0 n_impl_numRead [.string s] σ R := by
  refine ac_impl_numRead ?_
  unfold vc_impl_numRead
  have key : ∀ e : Value, pExtract (.tuple ⟨[.int .i64 (numI s), e]⟩) 0 (fun v2 => pExtract (.tuple ⟨[.int .i64 (numI s), e]⟩) 1 (fun v3 => R v2 σ)) := fun e => by
    rw [pExtract_s rfl, pExtract_s rfl]; exact hR
  refine AC.of_calls is_strconv_Atoi fun w hw => ?_
  obtain ⟨tp, p, tq, q, he⟩ := er
  obtain ⟨e1, e2⟩ := he w hw.bel
  rcases ha : Lib.atoiAll (bl s) with v | _ | _
  · have e : numI s = v := by unfold numI; rw [ha]
    refine (Tryz.strconv_Atoi_ok s (by omega) v ha w).mono ?_
    rintro x w' ⟨rfl, h⟩
    refine ⟨_, rfl, by have := key .nilIface; rw [e] at this; exact this, ?_⟩
    rcases h with rfl | ⟨t, rfl⟩
    · exact Below.refl _ _
    · exact Lib.bytesWorld_below _ _ _
  · have e : numI s = 0 := by unfold numI; rw [ha]
    refine (Any.strconv_Atoi_syntax_var Tryz.laysC172 s (by omega) ha tp p w e1).mono ?_
    rintro x w' ⟨N, rfl, _, _, h⟩
    exact ⟨_, rfl, by simp only [e] at key; exact key _, h⟩
  · have e : numI s = Lib.atoiSat (bl s) := by unfold numI; rw [ha]
    refine (Tryz.strconv_Atoi_range_var s (by omega) ha tq q w e2).mono ?_
    rintro x w' ⟨N, rfl, _, _, h⟩
    exact ⟨_, rfl, by simp only [e] at key; exact key _, h⟩
end
end Go.Proofs.YtkbhjejalkbogaaGreatDoor

/- 'LayerRead': a line, by the reference's hand. -/
set_option linter.unusedVariables false
set_option linter.unusedSimpArgs false
set_option maxRecDepth 20000
namespace Go.Proofs.YtkbhjejalkbogaaGreatDoor
open Go Go.Av Go.RowKit

section
variable (w0 : World) (a0 v0 v2 v18 : Value) (s17 : Vw) (R : Value → Vw → Prop)
def LBad (es : List Value) (s : Vw) : Prop := pVal true 5 (.agg ⟨es⟩) (R (.tuple ⟨[.agg ⟨es⟩, .bool false]⟩) s)
def LTail (es : List Value) (s : Vw) : Prop := AC Tryz.prog w0 n_spec_l3EntryOk [.agg ⟨es⟩] s (fun v23 s24 => pIf v23 (pBin Tryz.prog 9 .add a0 (.string ⟨#[10]⟩) (fun v25 => AC Tryz.prog w0 n_spec_l3Text [.agg ⟨es⟩] s24 (fun v26 s27 => pBin Tryz.prog 9 .eql v26 v25 (fun v28 =>
  pVal true 5 (.agg ⟨es⟩) (R (.tuple ⟨[.agg ⟨es⟩, v28]⟩) s27))))) (LBad R es s24))
def LEnd : Prop := LBad R [v18, .int .i64 0, .bool false, .int .i64 0, .string ⟨#[]⟩] s17
def LData : Prop := pIndexAddr 1 v0 (.int .i64 0) (fun v77 => pLoad w0 1 v77 s17 (fun g78 => pBin Tryz.prog 9 .eql (g78 0) (.string ⟨#[100, 97, 116, 97]⟩) (fun v79 => pIf v79 (pBin Tryz.prog 3 .eql v2 (.int .i64 3) (fun v80 => pIf v80 (pVal false 1 (.int .i64 4) (pIndexAddr 1 v0 (.int .i64 2) (fun v81 => pLoad w0 1 v81 s17 (fun g82 =>
  AC Tryz.prog w0 n_spec_l1Bytes [g82 0] s17 (fun v83 s84 => pExtract v83 0 (fun v85 => pExtract v83 1 (fun v86 => pVal false 1 v85 (pIf v86 (LTail w0 a0 R [v18, .int .i64 4, .bool false, .int .i64 0, v85] s84) (LBad R [v18, .int .i64 4, .bool false, .int .i64 0, v85] s84))))))))) (LEnd v18 s17 R))) (LEnd v18 s17 R))))
def LMode : Prop := pIndexAddr 1 v0 (.int .i64 0) (fun v63 => pLoad w0 1 v63 s17 (fun g64 => pBin Tryz.prog 9 .eql (g64 0) (.string ⟨#[109, 111, 100, 101]⟩) (fun v65 => pIf v65 (pBin Tryz.prog 3 .eql v2 (.int .i64 3) (fun v66 => pIf v66 (pVal false 1 (.int .i64 3) (pIndexAddr 1 v0 (.int .i64 2) (fun v67 => pLoad w0 1 v67 s17 (fun g68 =>
  AC Tryz.prog w0 n_spec_l3Mode [g68 0] s17 (fun v69 s70 => pVal false 1 v69 (LTail w0 a0 R [v18, .int .i64 3, .bool false, v69, .string ⟨#[]⟩] s70)))))) (LData w0 a0 v0 v2 v18 s17 R))) (LData w0 a0 v0 v2 v18 s17 R))))
def LNew : Prop := pIndexAddr 1 v0 (.int .i64 0) (fun v43 => pLoad w0 1 v43 s17 (fun g44 => pBin Tryz.prog 9 .eql (g44 0) (.string ⟨#[110, 101, 119]⟩) (fun v45 => pIf v45 (pBin Tryz.prog 3 .eql v2 (.int .i64 4) (fun v46 => pIf v46 (pVal false 1 (.int .i64 2) (pIndexAddr 1 v0 (.int .i64 2) (fun v47 => pLoad w0 1 v47 s17 (fun g48 =>
  AC Tryz.prog w0 n_spec_l3Mode [g48 0] s17 (fun v49 s50 => pVal false 1 v49 (pIndexAddr 1 v0 (.int .i64 3) (fun v51 => pLoad w0 1 v51 s50 (fun g52 => AC Tryz.prog w0 n_spec_l1Bytes [g52 0] s50 (fun v53 s54 => pExtract v53 0 (fun v55 => pExtract v53 1 (fun v56 => pVal false 1 v55 (pIf v56
    (LTail w0 a0 R [v18, .int .i64 2, .bool false, v49, v55] s54) (LBad R [v18, .int .i64 2, .bool false, v49, v55] s54))))))))))))) (LMode w0 a0 v0 v2 v18 s17 R))) (LMode w0 a0 v0 v2 v18 s17 R))))
def LNewdir : Prop := pIndexAddr 1 v0 (.int .i64 0) (fun v29 => pLoad w0 1 v29 s17 (fun g30 => pBin Tryz.prog 9 .eql (g30 0) (.string ⟨#[110, 101, 119, 100, 105, 114]⟩) (fun v31 => pIf v31 (pBin Tryz.prog 3 .eql v2 (.int .i64 3) (fun v32 => pIf v32 (pVal false 1 (.int .i64 2) (pVal false 1 (.bool true) (pIndexAddr 1 v0 (.int .i64 2) (fun v33 => pLoad w0 1 v33 s17 (fun g34 =>
  AC Tryz.prog w0 n_spec_l3Mode [g34 0] s17 (fun v35 s36 => pVal false 1 v35 (LTail w0 a0 R [v18, .int .i64 2, .bool true, v35, .string ⟨#[]⟩] s36))))))) (LNew w0 a0 v0 v2 v18 s17 R))) (LNew w0 a0 v0 v2 v18 s17 R))))
def LGone : Prop := pIndexAddr 1 v0 (.int .i64 0) (fun v19 => pLoad w0 1 v19 s17 (fun g20 => pBin Tryz.prog 9 .eql (g20 0) (.string ⟨#[103, 111, 110, 101]⟩) (fun v21 => pIf v21 (pBin Tryz.prog 3 .eql v2 (.int .i64 2) (fun v22 => pIf v22 (pVal false 1 (.int .i64 1) (LTail w0 a0 R [v18, .int .i64 1, .bool false, .int .i64 0, .string ⟨#[]⟩] s17))
  (LNewdir w0 a0 v0 v2 v18 s17 R))) (LNewdir w0 a0 v0 v2 v18 s17 R))))
def LNone (s : Vw) : Prop := LBad R [.slice none 0 0, .int .i64 0, .bool false, .int .i64 0, .string ⟨#[]⟩] s
def LLine (σ : Vw) : Prop := AC Tryz.prog w0 n_spec_l1Cut [a0, .int .u8 32] σ (fun v0 s1 => pVal true 5 (.agg (⟨[.slice none 0 0, .int .i64 0, .bool false, .int .i64 0, .string ⟨#[]⟩]⟩)) (pLen v0 (fun v2 => pBin Tryz.prog 3 .lss v2 (.int .i64 2) (fun v3 => pIf v3 (LNone R s1)
  (pIndexAddr 1 v0 (.int .i64 1) (fun v4 => pLoad w0 1 v4 s1 (fun g5 => pBin Tryz.prog 9 .eql (g5 0) (.string ⟨#[]⟩) (fun v6 => pIf v6 (LNone R s1) (pIndexAddr 1 v0 (.int .i64 1) (fun v7 => pLoad w0 1 v7 s1 (fun g8 => pIndexStr (g8 0) (.int .i64 0) (fun v9 => pBin Tryz.prog 5 .neq v9 (.int .u8 47) (fun v10 => pIf v10 (LNone R s1)
    (pIndexAddr 1 v0 (.int .i64 1) (fun v11 => pLoad w0 1 v11 s1 (fun g12 => pBin Tryz.prog 9 .neq (g12 0) (.string ⟨#[47]⟩) (fun v13 => pIf v13 (pIndexAddr 1 v0 (.int .i64 1) (fun v14 => pLoad w0 1 v14 s1 (fun g15 => AC Tryz.prog w0 n_spec_l1Cut [g15 0, .int .u8 47] s1 (fun v16 s17 => pSlice 1 v16 (some (.int .i64 1)) none (fun v18 => pVal false 1 v18
      (LGone w0 a0 v0 v2 v18 s17 R)))))) (LGone w0 a0 v0 v2 (.slice none 0 0) s1 R))))))))))))))))))
theorem line_eq (σ : Vw) : vc_spec_l3Line w0 a0 σ R = LLine w0 a0 R σ := by kernel_rfl
end
end Go.Proofs.YtkbhjejalkbogaaGreatDoor

/- 'LayerRead': by either hand; the law. -/
set_option linter.unusedVariables false
set_option linter.unusedSimpArgs false
set_option maxRecDepth 20000
namespace Go.Proofs.YtkbhjejalkbogaaGreatDoor
open Go Go.Av Go.RowKit

def Kd1 (x : En) : Prop := x.2 = (1, false, 0, nilT)
def Kd2 (x : En) : Prop := ∃ a, x.2 = (2, true, a, nilT) ∧ 0 ≤ a ∧ a ≤ 7
def Kd3 (x : En) : Prop := ∃ a t, x.2 = (2, false, a, t) ∧ 0 ≤ a ∧ a ≤ 7
def Kd4 (x : En) : Prop := ∃ a, x.2 = (3, false, a, nilT) ∧ 0 ≤ a ∧ a ≤ 7
def Kd5 (x : En) : Prop := ∃ t, x.2 = (4, false, 0, t)
theorem wd1 {x : En} (h : Kd1 x) : wordsE x = [goneT, pathT x.1] := by
  obtain ⟨p, r⟩ := x
  obtain rfl : r = _ := h
  rfl
theorem wd2 {x : En} (h : Kd2 x) : ∃ a, x.2 = (2, true, a, nilT) ∧ (0 ≤ a ∧ a ≤ 7) ∧ wordsE x = [newdirT, pathT x.1, decZ a] := by
  obtain ⟨p, r⟩ := x
  obtain ⟨a, h, ha⟩ := h
  obtain rfl : r = _ := h
  exact ⟨a, rfl, ha, rfl⟩
theorem wd3 {x : En} (h : Kd3 x) : ∃ a t, x.2 = (2, false, a, t) ∧ (0 ≤ a ∧ a ≤ 7) ∧ wordsE x = [newT, pathT x.1, decZ a, dataT t] := by
  obtain ⟨p, r⟩ := x
  obtain ⟨a, t, h, ha⟩ := h
  obtain rfl : r = _ := h
  exact ⟨a, t, rfl, ha, rfl⟩
theorem wd4 {x : En} (h : Kd4 x) : ∃ a, x.2 = (3, false, a, nilT) ∧ (0 ≤ a ∧ a ≤ 7) ∧ wordsE x = [modeT, pathT x.1, decZ a] := by
  obtain ⟨p, r⟩ := x
  obtain ⟨a, h, ha⟩ := h
  obtain rfl : r = _ := h
  exact ⟨a, rfl, ha, rfl⟩
theorem wd5 {x : En} (h : Kd5 x) : ∃ t, x.2 = (4, false, 0, t) ∧ wordsE x = [dataW, pathT x.1, dataT t] := by
  obtain ⟨p, r⟩ := x
  obtain ⟨t, h⟩ := h
  obtain rfl : r = _ := h
  exact ⟨t, rfl, rfl⟩
theorem words_path {x : En} (h : enB x = true) : (wordsE x)[1]? = some (pathT x.1) ∧ 2 ≤ (wordsE x).length := by
  rcases en_kinds h with h | h | h | h | h
  · rw [wd1 h]; simp
  · obtain ⟨a, _, _, e⟩ := wd2 h; rw [e]; simp
  · obtain ⟨a, t, _, _, e⟩ := wd3 h; rw [e]; simp
  · obtain ⟨a, _, _, e⟩ := wd4 h; rw [e]; simp
  · obtain ⟨t, _, e⟩ := wd5 h; rw [e]; simp
/-- A sound entry whose line this is. -/
def SL (l : ByteArray) (x : En) : Prop := enB x = true ∧ lineB x = l
theorem SL.words {l : ByteArray} {x : En} (h : SL l x) : cutS 32 l = wordsE x := by rw [← h.2]; exact cut_line h.1
theorem line_iff {l : ByteArray} {x : En} : lineE x = l ++ nlT ↔ lineB x = l := by
  rw [lineE_B]
  constructor
  · intro h
    have := congrArg bl h
    rw [bl_append, bl_append] at this
    exact bl_inj (List.append_cancel_right this)
  · intro h; rw [h]

section
variable {w0 : World} {σ : Vw}

abbrev OutL (w0 : World) (σ : Vw) (l : ByteArray) (R : Value → Vw → Prop) : Prop :=
  ∀ es F s' x b, Keeps σ s' → OEn w0 s' F es x → (∀ i, i ∈ F → σ i = none) → (b = true → SL l x) → (b = false → ∀ x', ¬ SL l x') → R (.tuple ⟨[.agg ⟨es⟩, .bool b]⟩) s'

theorem en_five {s : Vw} {F : List Nat} {es : List Value} {x : En} (h : OEn w0 s F es x) {A : Prop} : pVal true 5 (.agg ⟨es⟩) A ↔ A := by
  obtain ⟨v, rfl, h1, _⟩ := h
  exact pVal_5 (OSl.one' h1) rfl rfl rfl rfl

theorem bad_rule {l : ByteArray} {R : Value → Vw → Prop} (hR : OutL w0 σ l R) {s : Vw} {F : List Nat} {es : List Value} {x : En} (k : Keeps σ s) (ho : OEn w0 s F es x) (hF : ∀ i, i ∈ F → σ i = none) (hno : ∀ x', ¬ SL l x') : LBad R es s := by
  unfold LBad
  rw [en_five ho]
  exact hR es F s x false k ho hF (fun h => by cases h) fun _ => hno
theorem tail_rule {l : ByteArray} (hl : l.size ≤ 1048576) {R : Value → Vw → Prop} (hR : OutL w0 σ l R) {s : Vw} {F : List Nat} {es : List Value} {x : En} (k : Keeps σ s) (ho : OEn w0 s F es x) (hF : ∀ i, i ∈ F → σ i = none) (hx : ∀ x', SL l x' → x' = x) : LTail w0 (.string l) R es s := by
  unfold LTail
  have a1 : (⟨#[10]⟩ : ByteArray).size = 1 := rfl
  have hr := (ok_en w0).rel _ _ _ _ ho
  refine spec_entryOk hr ?_
  rw [pIf_b]
  refine ⟨fun hen => ?_, fun hen => bad_rule hR k ho hF fun x' h => ?_⟩
  · rw [pBin_cat (by omega)]
    refine spec_l3Text hr (en_small hen) fun s2 k2 => ?_
    rw [pBin_seq, en_five ho]
    have ho2 := (ok_en w0).frame _ s2 _ _ _ ho (k2.but_at fun i hi => ((ok_en w0).dom _ _ _ _ ho i hi).2)
    refine hR es F s2 x _ (k.trans k2) ho2 hF (fun h => ?_) fun h x' hx' => ?_
    · exact ⟨hen, line_iff.1 (of_decide_eq_true h)⟩
    · have e := hx x' hx'
      have h2 : ¬ lineE x = l ++ nlT := of_decide_eq_false h
      exact h2 (line_iff.2 (by rw [← e]; exact hx'.2))
  · rw [hx x' h] at h
    have := h.1
    rw [hen] at this; cases this

/-- What the words are, and the path. -/
structure Cx (w0 : World) (σ : Vw) (l : ByteArray) (v0 v18 : Value) (ps : List ByteArray) (F : List Nat) (s : Vw) : Prop where
  sz : l.size ≤ 1048576
  k : Keeps σ s
  w : RSl 1 RS (Av.get w0 s) v0 (cutS 32 l)
  o : OStrs w0 s F v18 ps
  f : ∀ i, i ∈ F → σ i = none
  p : ∀ x', SL l x' → x'.1 = ps

theorem Cx.own {l : ByteArray} {v0 v18 : Value} {ps : List ByteArray} {F : List Nat} {s s' : Vw} (c : Cx w0 σ l v0 v18 ps F s) (k : Keeps s s') {n m : Int} {d : Bool} {t : ByteArray} (hn : 0 ≤ n ∧ n ≤ 4) (hm : -1 ≤ m ∧ m ≤ 7) (ht : t.size ≤ 1048576) :
    OEn w0 s' F [v18, .int .i64 n, .bool d, .int .i64 m, .string t] (ps, n, d, m, t) :=
  ⟨v18, rfl, c.o.frame (ok_str w0) (k.but_at fun i hi => (c.o.dom (ok_str w0) i hi).2), ⟨by show _ ≤ n ∧ n ≤ _; omega, by show _ ≤ m ∧ m ≤ _; omega, by show t.size ≤ _; omega⟩⟩
theorem Cx.at {l : ByteArray} {v0 v18 : Value} {ps : List ByteArray} {F : List Nat} {s s' : Vw} (c : Cx w0 σ l v0 v18 ps F s) (k : Keeps s s') {j : Nat} {a : ByteArray} (hj : (cutS 32 l)[j]? = some a) {K : (Nat → Value) → Prop} (hK : ∀ g : Nat → Value, g 0 = .string a → K g) :
    pIndexAddr 1 v0 (.int .i64 (j : Nat)) fun p => pLoad w0 1 p s' K := RSl.at1 (c.w.mono k.le fun _ _ h => h) hj fun g hg _ => hK g hg

theorem end_rule {l : ByteArray} {R : Value → Vw → Prop} (hR : OutL w0 σ l R) {v0 v18 : Value} {ps : List ByteArray} {F : List Nat} {s : Vw} (c : Cx w0 σ l v0 v18 ps F s) (hno : ∀ x', ¬ SL l x') : LEnd v18 s R :=
  bad_rule hR c.k (c.own (Keeps.refl _) (by omega) (by omega) (by show 0 ≤ _; omega)) c.f hno

theorem data_rule {l : ByteArray} {R : Value → Vw → Prop} (hR : OutL w0 σ l R) {v0 v18 : Value} {ps : List ByteArray} {F : List Nat} {s : Vw} (c : Cx w0 σ l v0 v18 ps F s) (h2 : 2 ≤ (cutS 32 l).length) (H : ∀ x', SL l x' → Kd5 x') : LData w0 (.string l) v0 (.int .i64 ((cutS 32 l).length : Nat)) v18 s R := by
  unfold LData
  have hc := cutS_len 32 l
  have hsz := c.sz
  have h0 := List.getElem?_eq_getElem (show 0 < (cutS 32 l).length by omega)
  generalize (cutS 32 l)[0]'(by omega) = a0 at h0
  refine c.at (Keeps.refl _) h0 fun g hg => ?_
  rw [hg]
  show pBin Tryz.prog 9 .eql (.string a0) (.string dataW) _
  rw [pBin_seq, pIf_d]
  refine ⟨fun e => ?_, fun e => end_rule hR c fun x' h => ?_⟩
  · rw [pBin_eq, pIf_d]
    refine ⟨fun e3 => ?_, fun e3 => end_rule hR c fun x' h => ?_⟩
    · have hz := List.getElem?_eq_getElem (show 2 < (cutS 32 l).length by omega)
      generalize (cutS 32 l)[2]'(by omega) = a2 at hz
      have ha2 := cutS_mem (List.mem_of_getElem? hz)
      rw [pVal1 rfl]
      refine c.at (j := 2) (Keeps.refl _) hz fun g hg => ?_
      rw [hg]
      refine spec_Bytes (by omega) fun s2 k2 => ?_
      have hbz := bytesS_size a2
      have fact : ∀ x', SL l x' → x' = (ps, 4, false, 0, (bytesS a2).1) ∧ (bytesS a2).2 = true := fun x' h => by
        obtain ⟨t, e1, e2⟩ := wd5 (H x' h)
        have hw := h.words
        rw [hw, e2] at hz
        simp only [List.getElem?_cons_zero, List.getElem?_cons_succ, Option.some.injEq] at hz
        rw [← hz, bytesS_T]
        obtain ⟨p, r⟩ := x'
        have := c.p _ h
        simp only at this e1
        rw [this, e1]; exact ⟨rfl, rfl⟩
      rw [pExtract_s rfl, pExtract_s rfl, pVal1 rfl, pIf_b]
      have ho := c.own k2 (n := 4) (m := 0) (d := false) (t := (bytesS a2).1) (by omega) (by omega) (by omega)
      refine ⟨fun hb => tail_rule hsz hR (c.k.trans k2) ho c.f fun x' h => (fact x' h).1, fun hb => bad_rule hR (c.k.trans k2) ho c.f fun x' h => ?_⟩
      have := (fact x' h).2
      rw [hb] at this; cases this
    · obtain ⟨t, e1, e2⟩ := wd5 (H x' h)
      rw [h.words, e2] at e3
      exact e3 rfl
  · obtain ⟨t, e1, e2⟩ := wd5 (H x' h)
    rw [h.words, e2] at h0
    simp only [List.getElem?_cons_zero, Option.some.injEq] at h0
    exact e h0.symm

theorem mode_rule {l : ByteArray} {R : Value → Vw → Prop} (hR : OutL w0 σ l R) {v0 v18 : Value} {ps : List ByteArray} {F : List Nat} {s : Vw} (c : Cx w0 σ l v0 v18 ps F s) (h2 : 2 ≤ (cutS 32 l).length) (H : ∀ x', SL l x' → Kd4 x' ∨ Kd5 x') : LMode w0 (.string l) v0 (.int .i64 ((cutS 32 l).length : Nat)) v18 s R := by
  unfold LMode
  obtain ⟨n1, n2, n3, n4, n5, n6, n7, n8, n9, n10⟩ := w_ne
  have hc := cutS_len 32 l
  have hsz := c.sz
  have h0 := List.getElem?_eq_getElem (show 0 < (cutS 32 l).length by omega)
  generalize (cutS 32 l)[0]'(by omega) = a0 at h0
  refine c.at (Keeps.refl _) h0 fun g hg => ?_
  rw [hg]
  show pBin Tryz.prog 9 .eql (.string a0) (.string modeT) _
  have next : (a0 = modeT → (cutS 32 l).length ≠ 3) → LData w0 (.string l) v0 (.int .i64 ((cutS 32 l).length : Nat)) v18 s R := fun hn => data_rule hR c h2 fun x' h => by
    rcases H x' h with h' | h'
    · obtain ⟨a, _, _, e2⟩ := wd4 h'
      rw [h.words, e2] at h0 hn
      simp only [List.getElem?_cons_zero, Option.some.injEq] at h0
      exact absurd rfl (hn h0.symm)
    · exact h'
  rw [pBin_seq, pIf_d]
  refine ⟨fun e => ?_, fun e => next fun h => absurd h e⟩
  rw [pBin_eq, pIf_d]
  refine ⟨fun e3 => ?_, fun e3 => next fun _ h => e3 (by omega)⟩
  have hz := List.getElem?_eq_getElem (show 2 < (cutS 32 l).length by omega)
  generalize (cutS 32 l)[2]'(by omega) = a2 at hz
  have ha2 := cutS_mem (List.mem_of_getElem? hz)
  rw [pVal1 rfl]
  refine c.at (j := 2) (Keeps.refl _) hz fun g hg => ?_
  rw [hg]
  refine spec_Mode (by omega) ?_
  rw [pVal1 rfl]
  have hml := modeS_le a2
  refine tail_rule hsz hR c.k (c.own (Keeps.refl _) (n := 3) (m := modeS a2) (d := false) (t := nilT) (by omega) hml (by show 0 ≤ _; omega)) c.f fun x' h => ?_
  rcases H x' h with h' | h'
  · obtain ⟨a, e1, ha, e2⟩ := wd4 h'
    rw [h.words, e2] at hz
    simp only [List.getElem?_cons_zero, List.getElem?_cons_succ, Option.some.injEq] at hz
    rw [← hz, modeS_dec ha]
    obtain ⟨p, r⟩ := x'
    have := c.p _ h
    simp only at this e1
    rw [this, e1]
  · obtain ⟨t, e1, e2⟩ := wd5 h'
    rw [h.words, e2] at h0
    simp only [List.getElem?_cons_zero, Option.some.injEq] at h0
    exact absurd (h0.trans e) n10.symm

theorem new_rule {l : ByteArray} {R : Value → Vw → Prop} (hR : OutL w0 σ l R) {v0 v18 : Value} {ps : List ByteArray} {F : List Nat} {s : Vw} (c : Cx w0 σ l v0 v18 ps F s) (h2 : 2 ≤ (cutS 32 l).length) (H : ∀ x', SL l x' → Kd3 x' ∨ Kd4 x' ∨ Kd5 x') : LNew w0 (.string l) v0 (.int .i64 ((cutS 32 l).length : Nat)) v18 s R := by
  unfold LNew
  obtain ⟨n1, n2, n3, n4, n5, n6, n7, n8, n9, n10⟩ := w_ne
  have hc := cutS_len 32 l
  have hsz := c.sz
  have h0 := List.getElem?_eq_getElem (show 0 < (cutS 32 l).length by omega)
  generalize (cutS 32 l)[0]'(by omega) = a0 at h0
  refine c.at (Keeps.refl _) h0 fun g hg => ?_
  rw [hg]
  show pBin Tryz.prog 9 .eql (.string a0) (.string newT) _
  have next : (a0 = newT → (cutS 32 l).length ≠ 4) → LMode w0 (.string l) v0 (.int .i64 ((cutS 32 l).length : Nat)) v18 s R := fun hn => mode_rule hR c h2 fun x' h => by
    rcases H x' h with h' | h'
    · obtain ⟨a, t, _, _, e2⟩ := wd3 h'
      rw [h.words, e2] at h0 hn
      simp only [List.getElem?_cons_zero, Option.some.injEq] at h0
      exact absurd rfl (hn h0.symm)
    · exact h'
  rw [pBin_seq, pIf_d]
  refine ⟨fun e => ?_, fun e => next fun h => absurd h e⟩
  rw [pBin_eq, pIf_d]
  refine ⟨fun e3 => ?_, fun e3 => next fun _ h => e3 (by omega)⟩
  have hz := List.getElem?_eq_getElem (show 2 < (cutS 32 l).length by omega)
  generalize (cutS 32 l)[2]'(by omega) = a2 at hz
  have ha2 := cutS_mem (List.mem_of_getElem? hz)
  have hy := List.getElem?_eq_getElem (show 3 < (cutS 32 l).length by omega)
  generalize (cutS 32 l)[3]'(by omega) = a3 at hy
  have ha3 := cutS_mem (List.mem_of_getElem? hy)
  rw [pVal1 rfl]
  refine c.at (j := 2) (Keeps.refl _) hz fun g hg => ?_
  rw [hg]
  refine spec_Mode (by omega) ?_
  rw [pVal1 rfl]
  have hml := modeS_le a2
  refine c.at (j := 3) (Keeps.refl _) hy fun g' hg' => ?_
  rw [hg']
  refine spec_Bytes (by omega) fun s2 k2 => ?_
  have hbz := bytesS_size a3
  have fact : ∀ x', SL l x' → x' = (ps, 2, false, modeS a2, (bytesS a3).1) ∧ (bytesS a3).2 = true := fun x' h => by
    rcases H x' h with h' | h' | h'
    · obtain ⟨a, t, e1, ha, e2⟩ := wd3 h'
      rw [h.words, e2] at hz hy
      simp only [List.getElem?_cons_zero, List.getElem?_cons_succ, Option.some.injEq] at hz hy
      rw [← hz, ← hy, modeS_dec ha, bytesS_T]
      obtain ⟨p, r⟩ := x'
      have := c.p _ h
      simp only at this e1
      rw [this, e1]; exact ⟨rfl, rfl⟩
    · obtain ⟨a, e1, _, e2⟩ := wd4 h'
      rw [h.words, e2] at h0
      simp only [List.getElem?_cons_zero, Option.some.injEq] at h0
      exact absurd (h0.trans e) n8.symm
    · obtain ⟨t, e1, e2⟩ := wd5 h'
      rw [h.words, e2] at h0
      simp only [List.getElem?_cons_zero, Option.some.injEq] at h0
      exact absurd (h0.trans e) n9.symm
  rw [pExtract_s rfl, pExtract_s rfl, pVal1 rfl, pIf_b]
  have ho := c.own k2 (n := 2) (m := modeS a2) (d := false) (t := (bytesS a3).1) (by omega) hml (by omega)
  refine ⟨fun hb => tail_rule hsz hR (c.k.trans k2) ho c.f fun x' h => (fact x' h).1, fun hb => bad_rule hR (c.k.trans k2) ho c.f fun x' h => ?_⟩
  have := (fact x' h).2
  rw [hb] at this; cases this

theorem newdir_rule {l : ByteArray} {R : Value → Vw → Prop} (hR : OutL w0 σ l R) {v0 v18 : Value} {ps : List ByteArray} {F : List Nat} {s : Vw} (c : Cx w0 σ l v0 v18 ps F s) (h2 : 2 ≤ (cutS 32 l).length) (H : ∀ x', SL l x' → Kd2 x' ∨ Kd3 x' ∨ Kd4 x' ∨ Kd5 x') : LNewdir w0 (.string l) v0 (.int .i64 ((cutS 32 l).length : Nat)) v18 s R := by
  unfold LNewdir
  obtain ⟨n1, n2, n3, n4, n5, n6, n7, n8, n9, n10⟩ := w_ne
  have hc := cutS_len 32 l
  have hsz := c.sz
  have h0 := List.getElem?_eq_getElem (show 0 < (cutS 32 l).length by omega)
  generalize (cutS 32 l)[0]'(by omega) = a0 at h0
  refine c.at (Keeps.refl _) h0 fun g hg => ?_
  rw [hg]
  show pBin Tryz.prog 9 .eql (.string a0) (.string newdirT) _
  have next : (a0 = newdirT → (cutS 32 l).length ≠ 3) → LNew w0 (.string l) v0 (.int .i64 ((cutS 32 l).length : Nat)) v18 s R := fun hn => new_rule hR c h2 fun x' h => by
    rcases H x' h with h' | h'
    · obtain ⟨a, _, _, e2⟩ := wd2 h'
      rw [h.words, e2] at h0 hn
      simp only [List.getElem?_cons_zero, Option.some.injEq] at h0
      exact absurd rfl (hn h0.symm)
    · exact h'
  rw [pBin_seq, pIf_d]
  refine ⟨fun e => ?_, fun e => next fun h => absurd h e⟩
  rw [pBin_eq, pIf_d]
  refine ⟨fun e3 => ?_, fun e3 => next fun _ h => e3 (by omega)⟩
  have hz := List.getElem?_eq_getElem (show 2 < (cutS 32 l).length by omega)
  generalize (cutS 32 l)[2]'(by omega) = a2 at hz
  have ha2 := cutS_mem (List.mem_of_getElem? hz)
  rw [pVal1 rfl, pVal1 rfl]
  refine c.at (j := 2) (Keeps.refl _) hz fun g hg => ?_
  rw [hg]
  refine spec_Mode (by omega) ?_
  rw [pVal1 rfl]
  have hml := modeS_le a2
  refine tail_rule hsz hR c.k (c.own (Keeps.refl _) (n := 2) (m := modeS a2) (d := true) (t := nilT) (by omega) hml (by show 0 ≤ _; omega)) c.f fun x' h => ?_
  rcases H x' h with h' | h' | h' | h'
  · obtain ⟨a, e1, ha, e2⟩ := wd2 h'
    rw [h.words, e2] at hz
    simp only [List.getElem?_cons_zero, List.getElem?_cons_succ, Option.some.injEq] at hz
    rw [← hz, modeS_dec ha]
    obtain ⟨p, r⟩ := x'
    have := c.p _ h
    simp only at this e1
    rw [this, e1]
  · obtain ⟨a, t, _, _, e2⟩ := wd3 h'
    rw [h.words, e2] at h0
    simp only [List.getElem?_cons_zero, Option.some.injEq] at h0
    exact absurd (h0.trans e) n5.symm
  · obtain ⟨a, _, _, e2⟩ := wd4 h'
    rw [h.words, e2] at h0
    simp only [List.getElem?_cons_zero, Option.some.injEq] at h0
    exact absurd (h0.trans e) n6.symm
  · obtain ⟨t, e1, e2⟩ := wd5 h'
    rw [h.words, e2] at h0
    simp only [List.getElem?_cons_zero, Option.some.injEq] at h0
    exact absurd (h0.trans e) n7.symm

theorem gone_rule {l : ByteArray} {R : Value → Vw → Prop} (hR : OutL w0 σ l R) {v0 v18 : Value} {ps : List ByteArray} {F : List Nat} {s : Vw} (c : Cx w0 σ l v0 v18 ps F s) (h2 : 2 ≤ (cutS 32 l).length) : LGone w0 (.string l) v0 (.int .i64 ((cutS 32 l).length : Nat)) v18 s R := by
  unfold LGone
  obtain ⟨n1, n2, n3, n4, n5, n6, n7, n8, n9, n10⟩ := w_ne
  have hc := cutS_len 32 l
  have hsz := c.sz
  have H : ∀ x', SL l x' → Kd1 x' ∨ Kd2 x' ∨ Kd3 x' ∨ Kd4 x' ∨ Kd5 x' := fun x' h => en_kinds h.1
  have h0 := List.getElem?_eq_getElem (show 0 < (cutS 32 l).length by omega)
  generalize (cutS 32 l)[0]'(by omega) = a0 at h0
  refine c.at (Keeps.refl _) h0 fun g hg => ?_
  rw [hg]
  show pBin Tryz.prog 9 .eql (.string a0) (.string goneT) _
  have next : (a0 = goneT → (cutS 32 l).length ≠ 2) → LNewdir w0 (.string l) v0 (.int .i64 ((cutS 32 l).length : Nat)) v18 s R := fun hn => newdir_rule hR c h2 fun x' h => by
    rcases H x' h with h' | h'
    · have e2 := wd1 h'
      rw [h.words, e2] at h0 hn
      simp only [List.getElem?_cons_zero, Option.some.injEq] at h0
      exact absurd rfl (hn h0.symm)
    · exact h'
  rw [pBin_seq, pIf_d]
  refine ⟨fun e => ?_, fun e => next fun h => absurd h e⟩
  rw [pBin_eq, pIf_d]
  refine ⟨fun e3 => ?_, fun e3 => next fun _ h => e3 (by omega)⟩
  rw [pVal1 rfl]
  refine tail_rule hsz hR c.k (c.own (Keeps.refl _) (n := 1) (m := 0) (d := false) (t := nilT) (by omega) (by omega) (by show 0 ≤ _; omega)) c.f fun x' h => ?_
  rcases H x' h with h' | h' | h' | h' | h'
  · obtain ⟨p, r⟩ := x'
    have := c.p _ h
    have h' : r = (1, false, 0, nilT) := h'
    simp only at this
    rw [this, h']
  · obtain ⟨a, _, _, e2⟩ := wd2 h'
    rw [h.words, e2] at h0
    simp only [List.getElem?_cons_zero, Option.some.injEq] at h0
    exact absurd (h0.trans e) n1.symm
  · obtain ⟨a, t, _, _, e2⟩ := wd3 h'
    rw [h.words, e2] at h0
    simp only [List.getElem?_cons_zero, Option.some.injEq] at h0
    exact absurd (h0.trans e) n2.symm
  · obtain ⟨a, _, _, e2⟩ := wd4 h'
    rw [h.words, e2] at h0
    simp only [List.getElem?_cons_zero, Option.some.injEq] at h0
    exact absurd (h0.trans e) n3.symm
  · obtain ⟨t, e1, e2⟩ := wd5 h'
    rw [h.words, e2] at h0
    simp only [List.getElem?_cons_zero, Option.some.injEq] at h0
    exact absurd (h0.trans e) n4.symm

theorem nil_en {s : Vw} : OEn w0 s [] [.slice none 0 0, .int .i64 0, .bool false, .int .i64 0, .string ⟨#[]⟩] ([], 0, false, 0, nilT) :=
  ⟨_, rfl, nil_pathK, ⟨by show _ ≤ (0 : Int) ∧ (0 : Int) ≤ _; omega, by show _ ≤ (0 : Int) ∧ (0 : Int) ≤ _; omega, by show 0 ≤ _; omega⟩⟩

theorem spec_l3Line {l : ByteArray} (hl : l.size ≤ 1048576) {R : Value → Vw → Prop} (hR : OutL w0 σ l R) : AC Tryz.prog w0 n_spec_l3Line [.string l] σ R := by
  refine ac_spec_l3Line ?_
  rw [line_eq]
  unfold LLine
  have hc := cutS_len 32 l
  refine spec_l1Cut (c := 32) (by omega) fun v0 F0 s1 k1 o1 f1 => ?_
  have r1 := o1.rel (ok_str w0)
  rw [en_five (nil_en (w0 := w0) (s := s1)), r1.len]
  have none_rule : (∀ x', ¬ SL l x') → LNone R s1 := fun h => bad_rule hR k1 nil_en (fun i hi => by cases hi) h
  rw [pBin_lt, pIf_d]
  refine ⟨fun h => none_rule fun x' hx' => ?_, fun h => ?_⟩
  · have := (words_path hx'.1).2
    rw [← hx'.words] at this
    omega
  have h2 : 2 ≤ (cutS 32 l).length := by omega
  have h1 := List.getElem?_eq_getElem (show 1 < (cutS 32 l).length by omega)
  generalize (cutS 32 l)[1]'(by omega) = a1 at h1
  have ha1 := cutS_mem (List.mem_of_getElem? h1)
  have pa : ∀ x', SL l x' → a1 = pathT x'.1 ∧ okMk (x'.1, false) := fun x' hx' => by
    have := (words_path hx'.1).1
    rw [← hx'.words, h1] at this
    exact ⟨Option.some.inj this, en_path hx'.1⟩
  have at1 : ∀ {K : (Nat → Value) → Prop}, (∀ g : Nat → Value, g 0 = .string a1 → K g) → pIndexAddr 1 v0 (.int .i64 1) fun p => pLoad w0 1 p s1 K := fun hK => RSl.at1 (j := 1) r1 h1 fun g hg _ => hK g hg
  refine at1 fun g hg => ?_
  rw [hg]
  show pBin Tryz.prog 9 .eql (.string a1) (.string nilT) _
  rw [pBin_seq, pIf_d]
  refine ⟨fun e => none_rule fun x' hx' => ?_, fun hne => ?_⟩
  · obtain ⟨e1, e2⟩ := pa x' hx'
    exact (path_back e2).2.2.1 (e1.symm.trans e)
  have hb1 : 0 < a1.size := by
    rcases Nat.eq_zero_or_pos a1.size with h | h
    · have e0 : bl a1 = [] := List.eq_nil_of_length_eq_zero (by rw [size_bl]; exact h)
      exact absurd (bl_inj (by rw [e0]; rfl)) hne
    · exact h
  have hhd : (bl a1).head? = some (a1[0]'hb1) := by rw [List.head?_eq_getElem?]; exact bl_get a1 0 hb1
  refine at1 fun g hg => ?_
  rw [hg]
  refine pIndexStr_s (j := 0) hb1 ?_
  generalize a1[0]'hb1 = b0 at hhd
  rw [pBin_ne, pIf_d]
  refine ⟨fun e => none_rule fun x' hx' => ?_, fun e47 => ?_⟩
  · obtain ⟨e1, e2⟩ := pa x' hx'
    have := (path_back e2).2.2.2
    simp only at this
    rw [← e1, hhd] at this
    have := Option.some.inj this
    subst this
    exact e rfl
  refine at1 fun g hg => ?_
  rw [hg]
  show pBin Tryz.prog 9 .neq (.string a1) (.string slashT) _
  rw [pBin_sne, pIf_d]
  refine ⟨fun hsl => ?_, fun hsl => ?_⟩
  · refine at1 fun g hg => ?_
    rw [hg]
    refine spec_l1Cut (c := 47) (by omega) fun pv PF s3 k3 op fp => ?_
    refine strs_tail op (cutS_pos 47 a1) fun pv' PF' hsub op' => ?_
    rw [pVal1 (OSl.one' op')]
    refine gone_rule hR ⟨hl, k1.trans k3, r1.mono k3.le fun _ _ h => h, op', fun i hi => none_atK k1 (fp i (hsub i hi)), fun x' hx' => ?_⟩ h2
    obtain ⟨e1, e2⟩ := pa x' hx'
    have := (path_back e2).2.1
    simp only at this
    rw [← e1, if_neg hsl] at this
    exact this.symm
  · refine gone_rule hR ⟨hl, k1, r1, nil_pathK, (fun i hi => by cases hi), fun x' hx' => ?_⟩ h2
    obtain ⟨e1, e2⟩ := pa x' hx'
    have := (path_back e2).2.1
    simp only at this
    rw [← e1, if_pos (Decidable.not_not.1 hsl)] at this
    exact this.symm
end
end Go.Proofs.YtkbhjejalkbogaaGreatDoor

/- 'LayerRead': line by line, by either hand; the law. -/
set_option linter.unusedVariables false
set_option linter.unusedSimpArgs false
set_option maxRecDepth 20000
namespace Go.Proofs.YtkbhjejalkbogaaGreatDoor
open Go Go.Av Go.RowKit

section
variable {w0 : World} {σ : Vw}

abbrev OutE (w0 : World) (σ : Vw) (y : List En × Bool) (R : Value → Vw → Prop) : Prop :=
  ∀ v F σ', Keeps σ σ' → OSl w0 5 (OEn w0) σ' F v y.1 → (∀ b, b ∈ F → σ b = none) → R (.tuple ⟨[v, .bool y.2]⟩) σ'
theorem readE_none {s : Vw} {R : Value → Vw → Prop} (hR : OutE w0 σ ([], false) R) (k : Keeps σ s) {ety : Nat} : pNew w0 ety [] s (fun n s' => R (.tuple ⟨[.slice (some (Addr.mk n 0 none)) 0 0, .bool false]⟩) s') := fun b h1 h2 =>
  hR _ [b] _ (k.trans (Keeps.put h2)) (OAcc.new (ety := ety) h1).osl fun i hi => by rw [List.mem_singleton.1 hi]; exact none_atK k h2

theorem spec_LayerRead {text : ByteArray} (hs : text.size ≤ 1048576) {R : Value → Vw → Prop} (hR : OutE w0 σ (readE text) R) : AC Tryz.prog w0 n_spec_LayerRead [.string text] σ R := by
  refine ac_spec_LayerRead ?_
  unfold vc_spec_LayerRead
  intro b h1 h2
  have kb : Keeps σ (σ.put b ⟨t_impl_Entry, [], 0, (0, 0)⟩) := Keeps.put h2
  have hb0 : ∀ i, i ∈ [b] → σ i = none := fun i hi => by rw [List.mem_singleton.1 hi]; exact h2
  refine spec_l1Cut (c := 10) (by omega) fun lv LF s1 k1 ol fl => ?_
  have K1 := kb.trans k1
  have new := OAcc.new (w0 := w0) (σ := σ) (ety := t_impl_Entry) (n := 5) (O := OEn w0) h1
  have new1 := new.frame (ok_en w0) (k1.but_at fun b hb => (new.dom (ok_en w0) b hb).2)
  have hlr := ol.rel (ok_str w0)
  have hcl := cutS_len 10 text
  have hcp := cutS_pos 10 text
  have none0 : readE text = ([], false) → R (.tuple ⟨[.slice (some ⟨b, 0, none⟩) 0 0, .bool false]⟩) s1 := fun e => by
    rw [e] at hR
    exact hR _ [b] s1 K1 new1.osl hb0
  rw [hlr.len, pBin_sub (by omega), pLenS_s, pBin_gt, pIf_d]
  refine ⟨fun h => none0 (by rw [readE, if_neg (by omega)]), fun hsz => ?_⟩
  have hlast : (cutS 10 text)[(cutS 10 text).length - 1]? = (cutS 10 text).getLast? := List.getLast?_eq_getElem?.symm
  have hx := List.getElem?_eq_getElem (show (cutS 10 text).length - 1 < (cutS 10 text).length by omega)
  generalize (cutS 10 text)[(cutS 10 text).length - 1]'(by omega) = last at hx
  rw [hx] at hlast
  rw [show (((cutS 10 text).length : Nat) : Int) - 1 = (((cutS 10 text).length - 1 : Nat) : Int) by omega]
  refine RSl.at1 hlr hx fun g hg hgs => ?_
  rw [hg]
  show pBin Tryz.prog 9 .neq (.string last) (.string nilT) _
  rw [pBin_sne, pIf_d]
  refine ⟨fun h => none0 (read_no fun ⟨xs, e1, e2⟩ => ?_), fun hlz => ?_⟩
  · have := (layT_lines e1).2
    rw [e2, ← hlast] at this
    exact h (Option.some.inj this)
  have hlz := Decidable.not_not.1 hlz
  rw [hlz] at hlast
  have hlines : linesT text = (cutS 10 text).take ((cutS 10 text).length - 1) := rfl
  generalize hL0 : cutS 10 text = lines at ol hlr hcl hcp hlines hlast
  refine loop_rule (m := lines.length) (fun m l s => ∃ (i : Nat) (v : Value) (F : List Nat) (xs : List En), m + i = lines.length ∧ i ≤ lines.length - 1 ∧ Keeps σ s ∧ OStrs w0 s LF lv lines ∧ (∀ j, j ∈ LF → j ∉ F) ∧ OAcc w0 t_impl_Entry 5 (OEn w0) s F v xs ∧ (∀ j, j ∈ F → σ j = none) ∧
      (∀ x, x ∈ xs → enB x = true) ∧ lines.take i = xs.map lineB ∧ l = [.slice none 0 0, .bool false, v, lv, .int .i64 ((lines.length - 1 : Nat) : Int), .int .i64 (i : Nat)]) ?_
    ⟨0, _, [b], [], by omega, by omega, K1, ol, (fun j hj hj' => (new.dom (ok_en w0) j hj').2 (fl j hj)), new1, hb0, (fun x hx => by cases hx), rfl, rfl⟩
  rintro m l s L ⟨i, v, F, xs, hm, hiN, ks, hol, hdl, ho, hF, hen, hxs, rfl⟩ hL
  simp only [vget, List.getD_cons_zero, List.getD_cons_succ]
  rw [pBin_lt, pIf_d]
  refine ⟨fun hi => ?_, fun hi => ?_⟩
  · have hx := List.getElem?_eq_getElem (show i < lines.length by omega)
    generalize lines[i]'(by omega) = line at hx
    have hlsz : line.size ≤ 1048576 := by
      have := cutS_mem (c := 10) (s := text) (w := line) (by rw [hL0]; exact List.mem_of_getElem? hx)
      omega
    have hxl : xs.length = i := by
      have := congrArg List.length hxs
      rw [List.length_take, List.length_map] at this; omega
    refine RSl.at1 (hol.rel (ok_str w0)) hx fun g hg hgs => ?_
    rw [hg]
    refine spec_l3Line hlsz fun es G s2 x ok k2 ox hG hy hn => ?_
    have ox0 := ox
    obtain ⟨u, rfl, hu, hok⟩ := ox
    rw [pExtract_s rfl, pExtract_s rfl, en_five ox0]
    have K2 := ks.trans k2
    have ho2 := ho.frame (ok_en w0) (k2.but_at fun i hi => (ho.dom (ok_en w0) i hi).2)
    have hol2 := hol.frame (ok_str w0) (k2.but_at fun i hi => (hol.dom (ok_str w0) i hi).2)
    refine pNotIf.2 ⟨fun e => ?_, fun e => ?_⟩
    · have hno := hn e
      have hr : readE text = ([], false) := read_no fun ⟨ys, e1, e2⟩ => by
        have h3 := (layT_lines e1).1
        rw [e2, hlines] at h3
        have h4 : (lines.take (lines.length - 1))[i]? = some line := by rw [List.getElem?_take_of_lt (by omega)]; exact hx
        rw [h3, List.getElem?_map] at h4
        obtain ⟨y, hy1, hy2⟩ := Option.map_eq_some_iff.1 h4
        exact hno y ⟨e1 y (List.mem_of_getElem? hy1), hy2⟩
      rw [hr] at hR
      exact readE_none hR K2
    · have hsl := hy e
      simp only [cellOf_agg, List.getD_cons_zero, List.getD_cons_succ]
      rw [en_five ox0]
      refine ho2.one (ok_en w0) (y := x) ox0 (fun j hj hj' => (ho.dom (ok_en w0) j hj').2 (hG j hj)) (by omega) (by omega) fun v4 F4 s4 k4 o4 f4 => ?_
      rw [pBin_add (by omega)]
      refine hL _ _ (m - 1) (by omega) ⟨i + 1, v4, F4, xs ++ [x], by omega, by omega, k4.old K2 hF, hol2.frame (ok_str w0) (k4.at (fun b hb => (hol2.dom (ok_str w0) b hb).2) hdl), fun j hj hj' => ?_, o4, fun j hj => ?_, fun y hy' => ?_, ?_, by simp⟩
      · rcases f4 j hj' with h | h | h
        · exact hdl j hj h
        · exact (hol.dom (ok_str w0) j hj).2 (hG j h)
        · exact (hol2.dom (ok_str w0) j hj).2 h
      · rcases f4 j hj with h | h | h
        · exact hF j h
        · exact none_atK ks (hG j h)
        · exact none_atK K2 h
      · rcases List.mem_append.1 hy' with h | h
        · exact hen y h
        · rw [List.mem_singleton.1 h]; exact hsl.1
      · rw [List.take_add_one, hx, hxs, List.map_append, List.map_cons, List.map_nil, hsl.2]; rfl
  · have e : i = lines.length - 1 := by omega
    subst e
    have ht : layT xs = text := text_of (by rw [hlines, hxs]) (by rw [hL0]; exact hlast.symm)
    rw [read_yes (by omega) hen ht] at hR
    exact hR v F s ks ho.osl hF

theorem acc_strs {b cap : Nat} {xs : List ByteArray} (hb : w0.heap.size ≤ b) (hr : σ b = some ⟨t_string, xs.map .string, cap, (0, 0)⟩) (hm : xs.length ≤ cap ∧ cap ≤ 9223372036854775807) (hs : ∀ x, x ∈ xs → x.size ≤ 9223372036854775807) :
    OAcc w0 t_string 1 OStr σ [b] (.slice (some ⟨b, 0, none⟩) xs.length cap) xs := by
  refine ⟨by omega, by simp, .inr ⟨b, cap, xs.map fun s => [Value.string s], List.replicate xs.length [], rfl, hm, hb, by rw [← flat_strs, Nat.mul_one]; exact hr, by simp, by simp, by simp, fun j c x f e1 e2 e3 => ?_⟩⟩
  rw [List.getElem?_map, e2] at e1
  cases e1
  rw [List.getElem?_replicate] at e3
  split at e3
  · cases e3; exact ⟨rfl, rfl, hs x (List.mem_of_getElem? e2)⟩
  · cases e3
theorem strings_SplitA (mx : MaxL w0) {s : ByteArray} {c : UInt8} (hs : s.size ≤ 1000000000) {R : Value → Vw → Prop} (hR : ∀ v F σ', Keeps σ σ' → OAcc w0 t_string 1 OStr σ' F v (cutS c s) → (∀ b, b ∈ F → σ b = none) → R v σ') : AC Tryz.prog w0 n_strings_Split [.string s, .string ⟨#[c]⟩] σ R := by
  refine ⟨is_strings_Split, fun w hw => ?_⟩
  obtain ⟨m, hm⟩ := mx
  refine (Tryz.strings_Split s ⟨#[c]⟩ m w (by omega) (hm w hw.bel) (Nat.le_refl 1)).mono ?_
  rintro e w' ⟨rfl, rfl⟩
  rw [splitB_cutS, countB_len]
  have hn : σ w.heap.size = none := by
    cases h : σ w.heap.size with
    | none => rfl
    | some r => exact absurd (hw.lt h) (Nat.lt_irrefl _)
  have hcl := cutS_len c s
  refine ⟨_, σ.put w.heap.size ⟨t_string, (cutS c s).map .string, (cutS c s).length, (0, 0)⟩, rfl, hR _ [w.heap.size] _ (Keeps.put hn) (acc_strs hw.bel.size put_at ⟨Nat.le_refl _, by omega⟩ fun x hx => ?_) (fun i hi => by rw [List.mem_singleton.1 hi]; exact hn), ?_⟩
  · have := cutS_mem hx; omega
  · exact Aft.row hw _ ⟨t_string, (cutS c s).map .string, (cutS c s).length, (0, 0)⟩ (by simp) (by simp) rfl

theorem wordAt_size {l : ByteArray} {j : Nat} : (wordAt l j).size ≤ l.size := by
  unfold wordAt
  cases h : (cutS 32 l ++ [nilT, nilT, nilT])[j]? with
  | none => show 0 ≤ _; omega
  | some w =>
    have hm := List.mem_of_getElem? h
    rcases List.mem_append.1 hm with hm | hm
    · exact cutS_mem hm
    · simp only [List.mem_cons, List.mem_nil_iff, or_false, or_self] at hm
      subst hm
      show 0 ≤ _; omega

theorem impl_LayerRead (tab : Tab w0) (mx : MaxL w0) (er : ErrL w0) {text : ByteArray} (hs : text.size ≤ 1048576) {R : Value → Vw → Prop} (hR : OutE w0 σ (readE text) R) : AC Tryz.prog w0 n_impl_LayerRead [.string text] σ R := by
  refine ac_impl_LayerRead ?_
  unfold vc_impl_LayerRead
  intro b h1 h2
  have kb : Keeps σ (σ.put b ⟨t_impl_Entry, [], 0, (0, 0)⟩) := Keeps.put h2
  have hb0 : ∀ i, i ∈ [b] → σ i = none := fun i hi => by rw [List.mem_singleton.1 hi]; exact h2
  have new := OAcc.new (w0 := w0) (σ := σ) (ety := t_impl_Entry) (n := 5) (O := OEn w0) h1
  rw [pLenS_s, pBin_gt, pIf_d]
  refine ⟨fun h => ?_, fun hsz => ?_⟩
  · rw [readE, if_neg (by omega)] at hR
    exact hR _ [b] _ kb new.osl hb0
  refine impl_linesOf mx hs fun lv s1 k1 ol => ?_
  have K1 := kb.trans k1
  have new1 := new.frame (ok_en w0) (k1.but_at fun b hb => (new.dom (ok_en w0) b hb).2)
  have hcl := cutS_len 10 text
  have hpar : parE text = (linesT text).map eI := rfl
  have hmem : ∀ l, l ∈ linesT text → l.size ≤ 1048576 := fun l hl => by
    have := cutS_mem (List.mem_of_mem_take hl); omega
  have hlen : (linesT text).length ≤ 6001 := by unfold linesT; rw [List.length_take]; omega
  have ol : RSl 1 RS (Av.get w0 s1) lv (linesT text) := ol
  generalize hL0 : linesT text = lines at ol hpar hmem hlen
  rw [ol.len]
  refine loop_rule (m := lines.length) (fun m l s => ∃ (i : Nat) (v : Value) (F : List Nat), m + i = lines.length ∧ Keeps σ s ∧ RSl 1 RS (Av.get w0 s) lv lines ∧ OAcc w0 t_impl_Entry 5 (OEn w0) s F v ((lines.take i).map eI) ∧ (∀ j, j ∈ F → σ j = none) ∧
      l = [.string text, v, lv, .int .i64 (lines.length : Nat), .int .i64 (i : Nat)]) ?_
    ⟨0, _, [b], by omega, K1, ol, by simpa using new1, hb0, rfl⟩
  rintro m l s L ⟨i, v, F, hm, ks, hol, ho, hF, rfl⟩ hL
  simp only [vget, List.getD_cons_zero, List.getD_cons_succ]
  rw [pBin_lt, pIf_d]
  refine ⟨fun hi => ?_, fun hi => ?_⟩
  · have hx := List.getElem?_eq_getElem (show i < lines.length by omega)
    generalize hxi : lines[i]'(by omega) = line at hx
    have hlsz := hmem line (List.mem_of_getElem? hx)
    have hwl := cutS_len 32 line
    have hwp := cutS_pos 32 line
    refine RSl.at1 hol hx fun g hg hgs => ?_
    rw [hg]
    refine strings_SplitA mx (c := 32) (by omega) fun wv WF s2 k2 ow fw => ?_
    rw [pVal1 rfl, pVal1 rfl, pVal1 rfl]
    refine ⟨by simp [allOne, Value.oneCell'], ?_⟩
    refine ow.push (ok_str w0) (m := 3) (ys := [nilT, nilT, nilT]) (nss := [[.string nilT], [.string nilT], [.string nilT]]) (Gs := [[], [], []]) rfl rfl rfl rfl (fun j c y g e1 e2 e3 => ?_) (by simp) (by simp) (by omega) (by omega) fun wv2 WF2 s3 k3 ow3 fw3 => ?_
    · have z0 : nilT.size ≤ 9223372036854775807 := by show 0 ≤ _; omega
      match j with
      | 0 => simp at e1 e2 e3; subst e1 e2 e3; exact ⟨rfl, rfl, z0⟩
      | 1 => simp at e1 e2 e3; subst e1 e2 e3; exact ⟨rfl, rfl, z0⟩
      | 2 => simp at e1 e2 e3; subst e1 e2 e3; exact ⟨rfl, rfl, z0⟩
      | j + 3 => simp at e1
    have k23 : Keeps s s3 := k3.old k2 fw
    have hwr := ow3.osl.rel (ok_str w0)
    have hat : ∀ j, j < 4 → (cutS 32 line ++ [nilT, nilT, nilT])[j]? = some (wordAt line j) := fun j hj => by
      have := List.getElem?_eq_getElem (show j < (cutS 32 line ++ [nilT, nilT, nilT]).length by rw [List.length_append]; simp; omega)
      rw [wordAt, this]; rfl
    have hws : ∀ j, (wordAt line j).size ≤ 1048576 := fun j => Nat.le_trans wordAt_size hlsz
    refine RSl.at1 hwr (j := 1) (hat 1 (by omega)) fun g hg _ => ?_
    rw [hg]
    refine impl_pathRead mx (hws 1) fun pv PF s4 k4 op fp => ?_
    have K4 := k23.trans k4
    have hwr4 := hwr.mono k4.le fun _ _ h => h
    have hone := OSl.one' op
    have v5 : ∀ {k m : Int} {d : Bool} {t : ByteArray} {A : Prop}, pVal true 5 (.agg ⟨[pv, .int .i64 k, .bool d, .int .i64 m, .string t]⟩) A ↔ A := fun {k m d t A} => pVal_5 hone rfl rfl rfl rfl
    rw [pVal1 hone, v5]
    -- one more
    have fin : ∀ (s' : Vw) (k : Int) (d : Bool) (m' : Int) (t : ByteArray), Keeps s4 s' → eI line = (pathI (wordAt line 1), k, d, m', t) → (0 ≤ k ∧ k ≤ 4) → (-9223372036854775808 ≤ m' ∧ m' ≤ 9223372036854775807) → t.size ≤ 1048576 →
        pVal true 5 (.agg ⟨[pv, .int .i64 k, .bool d, .int .i64 m', .string t]⟩) (allOne [pv, .int .i64 k, .bool d, .int .i64 m', .string t] ∧ pAppend w0 t_impl_Entry 5 64 v 1 [pv, .int .i64 k, .bool d, .int .i64 m', .string t] s' (fun v24 s25 => pBin Tryz.prog 3 .add (.int .i64 (i : Nat)) (.int .i64 1) (fun v26 => L [.string text, v24, lv, .int .i64 (lines.length : Nat), v26] s25))) := by
      intro s' k d m' t k5 he hk hm' ht
      rw [v5]
      have K5 := K4.trans k5
      have ho5 := ho.frame (ok_en w0) (K5.but_at fun b hb => (ho.dom (ok_en w0) b hb).2)
      have op5 := op.frame (ok_str w0) (k5.but_at fun b hb => (op.dom (ok_str w0) b hb).2)
      refine ho5.oneX (ok_en w0) (f := PF) (y := (pathI (wordAt line 1), k, d, m', t)) ⟨pv, rfl, op5, ⟨by show _ ≤ k ∧ k ≤ _; omega, hm', by show t.size ≤ _; omega⟩⟩ (fun j hj hj' => (ho.dom (ok_en w0) j hj').2 (none_atK k23 (fp j hj))) (by rw [List.length_map, List.length_take]; omega) (by omega) fun v4 F4 s6 hext k6 o6 f6 => ?_
      rw [pBin_add (by omega)]
      refine hL _ _ (m - 1) (by omega) ⟨i + 1, v4, F4, by omega, k6.old (ks.trans K5) hF, (hol.mono K5.le fun _ _ h => h).mono (fun a u h => get_ext hext h) fun _ _ h => h, ?_, fun j hj => ?_, by simp⟩
      · rw [List.take_add_one, hx, Option.toList_some, List.map_append, List.map_cons, List.map_nil, he]; exact o6
      · rcases f6 j hj with h | h | h
        · exact hF j h
        · exact none_atK (ks.trans k23) (fp j h)
        · exact none_atK (ks.trans K5) h
    have z0 : (0 : Int) ≤ 4 := by omega
    have zm : (-9223372036854775808 : Int) ≤ 0 ∧ (0 : Int) ≤ 9223372036854775807 := by omega
    have zt : nilT.size ≤ 1048576 := by show 0 ≤ _; omega
    refine RSl.at1 hwr4 (j := 0) (hat 0 (by omega)) fun g hg _ => ?_
    rw [hg]
    show pBin Tryz.prog 9 .eql (.string (wordAt line 0)) (.string goneT) _
    rw [pBin_seq, pIf_d]
    refine ⟨fun e1 => ?_, fun e1 => ?_⟩
    · rw [pVal1 rfl]
      exact fin s4 1 false 0 nilT (Keeps.refl _) (by unfold eI; rw [if_pos e1]) (by omega) zm zt
    show pBin Tryz.prog 9 .eql (.string (wordAt line 0)) (.string newdirT) _
    rw [pBin_seq, pIf_d]
    refine ⟨fun e2 => ?_, fun e2 => ?_⟩
    · refine RSl.at1 hwr4 (j := 2) (hat 2 (by omega)) fun g hg _ => ?_
      rw [hg]
      refine impl_numRead er (hws 2) ?_
      rw [pVal1 rfl, pVal1 rfl, pVal1 rfl]
      exact fin s4 2 true (numI (wordAt line 2)) nilT (Keeps.refl _) (by unfold eI; rw [if_neg e1, if_pos e2]) (by omega) numI_le zt
    show pBin Tryz.prog 9 .eql (.string (wordAt line 0)) (.string newT) _
    rw [pBin_seq, pIf_d]
    refine ⟨fun e3 => ?_, fun e3 => ?_⟩
    · refine RSl.at1 hwr4 (j := 2) (hat 2 (by omega)) fun g hg _ => ?_
      rw [hg]
      refine RSl.atp hwr4 (j := 3) (hat 3 (by omega)) fun q g3 hg3 => ?_
      obtain ⟨hg3, _⟩ := hg3
      simp only [expl, List.cons.injEq, and_true] at hg3
      refine impl_numRead er (hws 2) ⟨(Keeps.refl _).stay, ?_⟩
      rw [hg3]
      refine impl_dataRead (hws 3) fun s5 k5 => ?_
      rw [pVal1 rfl, pVal1 rfl, pVal1 rfl]
      exact fin s5 2 false (numI (wordAt line 2)) (dataI (wordAt line 3)) k5 (by unfold eI; rw [if_neg e1, if_neg e2, if_pos e3]) (by omega) numI_le (Nat.le_trans (dataI_size _) (hws 3))
    show pBin Tryz.prog 9 .eql (.string (wordAt line 0)) (.string modeT) _
    rw [pBin_seq, pIf_d]
    refine ⟨fun e4 => ?_, fun e4 => ?_⟩
    · refine RSl.at1 hwr4 (j := 2) (hat 2 (by omega)) fun g hg _ => ?_
      rw [hg]
      refine impl_numRead er (hws 2) ?_
      rw [pVal1 rfl, pVal1 rfl]
      exact fin s4 3 false (numI (wordAt line 2)) nilT (Keeps.refl _) (by unfold eI; rw [if_neg e1, if_neg e2, if_neg e3, if_pos e4]) (by omega) numI_le zt
    show pBin Tryz.prog 9 .eql (.string (wordAt line 0)) (.string dataW) _
    rw [pBin_seq, pIf_d]
    refine ⟨fun e5 => ?_, fun e5 => ?_⟩
    · refine RSl.at1 hwr4 (j := 2) (hat 2 (by omega)) fun g hg _ => ?_
      rw [hg]
      refine impl_dataRead (hws 2) fun s5 k5 => ?_
      rw [pVal1 rfl, pVal1 rfl]
      exact fin s5 4 false 0 (dataI (wordAt line 2)) k5 (by unfold eI; rw [if_neg e1, if_neg e2, if_neg e3, if_neg e4, if_pos e5]) (by omega) zm (Nat.le_trans (dataI_size _) (hws 2))
    · exact fin s4 0 false 0 nilT (Keeps.refl _) (by unfold eI; rw [if_neg e1, if_neg e2, if_neg e3, if_neg e4, if_neg e5]) (by omega) zm zt
  · have e : i = lines.length := by omega
    subst e
    rw [List.take_length, ← hpar] at ho
    have hrel := ho.osl.rel (ok_en w0)
    have hpl : (parE text).length ≤ 6001 := by rw [hpar, List.length_map]; exact hlen
    show AC Tryz.prog w0 n_impl_LayerWrite [v] s _
    refine impl_LayerWrite tab hrel (by omega) fun s2 k2 => ?_
    have K2 := ks.trans k2
    have ho2 := ho.frame (ok_en w0) (k2.but_at fun b hb => (ho.dom (ok_en w0) b hb).2)
    show pBin Tryz.prog 9 .neq (.string (layX (parE text))) (.string text) _
    rw [pBin_sne, pIf_d]
    refine ⟨fun hne => ?_, fun he => ?_⟩
    · have hr : readE text = ([], false) := by
        rw [readE, if_neg]
        rintro ⟨q1, q2, q3⟩
        exact hne (by rw [layX, if_pos ⟨q2, by rw [q3]; exact q1⟩]; exact q3)
      rw [hr] at hR
      exact readE_none hR K2
    · have he := Decidable.not_not.1 he
      have hc : allB enB (parE text) = true ∧ layT (parE text) = text := by
        unfold layX at he
        split at he
        · rename_i h; exact ⟨h.1, he⟩
        · have e0 : text = nilT := he.symm
          have hp : parE text = [] := by rw [e0]; rfl
          rw [hp]
          exact ⟨rfl, e0.symm⟩
      have hr : readE text = (parE text, true) := by rw [readE, if_pos ⟨by omega, hc.1, hc.2⟩]
      rw [hr] at hR
      exact hR v F s2 K2 ho2.osl hF

theorem readE_sum (text : ByteArray) : sumBy cEn (readE text).1 ≤ 1000000 := by
  unfold readE
  split
  · rename_i h
    have h1 : (parE text).length ≤ 6001 := by
      have := cutS_len 10 text
      unfold parE linesT
      rw [List.length_map, List.length_take]; omega
    have h2 : sumBy cEn (parE text) ≤ 8 * (parE text).length := by
      have hb : ∀ {xs : List En}, (∀ x, x ∈ xs → cEn x ≤ 8) → sumBy cEn xs ≤ 8 * xs.length := by
        intro xs
        induction xs with
        | nil => intro _; simp [sumBy]
        | cons a r ih =>
          intro h
          have q1 := h a (by simp)
          have q2 := ih fun x hx => h x (by simp [hx])
          simp only [sumBy, List.length_cons]; omega
      refine hb fun x hx => ?_
      obtain ⟨j, hj⟩ := List.getElem?_of_mem hx
      have := (en_path (allB_iff.1 h.2.1 j x hj)).2
      simp only at this
      simp only [cEn]; omega
    show sumBy cEn (parE text) ≤ _
    omega
  · simp [sumBy]

end
end Go.Proofs.YtkbhjejalkbogaaGreatDoor

/- Entries that are drawn and spoilt; a layer's text that is drawn. -/
set_option linter.unusedVariables false
set_option linter.unusedSimpArgs false
set_option maxRecDepth 20000
namespace Go.Proofs.YtkbhjejalkbogaaGreatDoor
open Go Go.Av Go.RowKit

/-! ### How much an entry holds -/
def datE (N : Nat) (x : En) : Prop := x.2.2.2.2.size ≤ N
theorem sz_kid {n : Nat} {y k : Tr} (h : k ∈ kidsOf y) : szT n k ≤ szT (n + 1) y := by
  obtain ⟨d, m, t, ns, ks⟩ := y
  have h2 := sumBy_mem (f := szT n) (xs := ks) h
  simp only [szT]; omega
theorem sz_data {n : Nat} {y : Tr} : (dataOf y).size ≤ szT (n + 1) y := by
  obtain ⟨d, m, t, ns, ks⟩ := y
  show t.size ≤ _
  simp only [szT]; omega
theorem lin_dat : ∀ (n : Nat) (ps : List ByteArray) (x : Tr) (e : En), e ∈ linT fNew n ps x → datE (szT n x) e
  | 0, _, _, _, h => by simp [linT] at h
  | n + 1, ps, .mk d m t ns ks, e, h => by
    rw [linT_step] at h
    rcases List.mem_cons.1 h with h | h
    · subst h
      exact sz_data (y := .mk d m t ns ks)
    · obtain ⟨l, hl, he⟩ := List.mem_flatten.1 h
      obtain ⟨y, hy, rfl⟩ := List.mem_map.1 hl
      exact Nat.le_trans (lin_dat n _ y.2 e he) (sz_kid (y := .mk d m t ns ks) (List.of_mem_zip hy).2)
theorem walk_dat {N : Nat} : ∀ (n : Nat) (ps : List ByteArray) (a b : Option Tr) (e : En), e ∈ walkE n ps a b → (∀ y, b = some y → szT n y ≤ N) → datE N e
  | 0, _, _, _, _, h, _ => by simp [walkE] at h
  | _ + 1, _, none, none, _, h, _ => by simp [walkE] at h
  | n + 1, ps, none, some b, e, h, hb => by
    simp only [walkE] at h
    exact Nat.le_trans (lin_dat _ _ _ _ h) (hb b rfl)
  | n + 1, ps, some _, none, e, h, _ => by
    simp only [walkE, List.mem_singleton] at h
    subst h
    exact Nat.zero_le _
  | n + 1, ps, some a, some b, e, h, hb => by
    simp only [walkE] at h
    split at h
    · rcases List.mem_append.1 h with h | h
      · unfold partE at h
        rcases List.mem_append.1 h with h | h
        · split at h
          · cases h
          · rw [List.mem_singleton.1 h]; exact Nat.zero_le _
        · split at h
          · cases h
          · rw [List.mem_singleton.1 h]; exact Nat.le_trans sz_data (hb b rfl)
      · obtain ⟨l, hl, he⟩ := List.mem_flatten.1 h
        obtain ⟨z, hz, rfl⟩ := List.mem_map.1 hl
        have kid : ∀ k (nm : ByteArray), (nm, k) ∈ partsOf b → szT n k ≤ N := fun k nm hk => Nat.le_trans (sz_kid (List.of_mem_zip hk).2) (hb b rfl)
        refine walk_dat n _ _ _ _ he fun y hy => ?_
        rcases mrgK_mem _ _ z hz with ⟨_, h3 | ⟨k, nm, h3, h4⟩⟩ | ⟨_, k, h3, h4⟩
        · rw [h3] at hy; cases hy
        · rw [h3] at hy; cases hy; exact kid _ _ h4
        · rw [h3] at hy; cases hy; exact kid _ _ h4
    · rcases List.mem_cons.1 h with h | h
      · subst h; exact Nat.zero_le _
      · exact Nat.le_trans (lin_dat _ _ _ _ h) (hb b rfl)
theorem diffX_dat {n m : Nat} {x y : Tr} : ∀ e, e ∈ diffX n m x y → datE 1000 e := by
  intro e he
  unfold diffX at he
  split at he
  · rename_i hok
    refine walk_dat _ _ _ _ _ he fun z hz => ?_
    cases hz
    have h2 := (ok_fine hok.2).2.1
    have h3 := (ok_fine hok.2).2.2.1
    have := short_sz 5 y h2
    omega
  · cases he
theorem diffX_len {n m : Nat} {x y : Tr} : (diffX n m x y).length ≤ 10000 := by
  have h1 := diffX_sum (n := n) (m := m) (x := x) (y := y)
  have h2 : ∀ l : List En, l.length ≤ sumBy cEn l := fun l => by
    induction l with
    | nil => simp
    | cons a r ih => simp only [sumBy, cEn, List.length_cons]; omega
  exact Nat.le_trans (h2 _) h1
theorem rok_en : ROk 5 REn := ⟨fun rd rd' es x hl h => mono_en hl h, fun rd es x h => by obtain ⟨v, rfl, _⟩ := h; rfl, fun rd es x h c hc => by
  obtain ⟨v, rfl, hv, _⟩ := h
  simp at hc
  rcases hc with rfl | rfl | rfl | rfl | rfl
  · exact hv.one
  all_goals rfl⟩

section
variable {w0 : World} {σ : Vw}

/-- An element of a list of our own: where it lies, and what the list is once it is written. -/
theorem OB_at {α : Type} {ety n : Nat} {Rel : (Addr → Option Value) → List Value → α → Prop} (ok : ROk n Rel) {rd : Addr → Option Value} {F : List Nat} {v : Value} {xs : List α} {k : Nat} {x : α} (h : OAcc w0 ety n (OB Rel rd) σ F v xs) (hk : xs[k]? = some x) :
    ∃ (bl : Nat) (r : Row) (A c C : List Value), (∀ K : Value → Prop, K (.pointer (some ⟨bl, k * n, none⟩)) → pIndexAddr n v (.int .i64 (k : Nat)) K) ∧ w0.heap.size ≤ bl ∧ σ bl = some r ∧ r.cells = A ++ (c ++ C) ∧ A.length = k * n ∧ c.length = n ∧ Rel rd c x ∧ bl ∈ F ∧
      ∀ (σ' : Vw) (c' : List Value) (x' : α) (r' : Row), σ' bl = some r' → r'.cells = A ++ (c' ++ C) → c'.length = n → Rel (Av.get w0 σ') c' x' → Le rd (Av.get w0 σ') → RSl n Rel (Av.get w0 σ') v (xs.set k x') := by
  obtain ⟨h1, h2, ⟨rfl, rfl, rfl⟩ | ⟨bl, cap, css, Fs, rfl, g2, g3, g4, g5, g6, rfl, g8⟩⟩ := h
  · simp at hk
  have hlt : k < xs.length := (List.getElem?_eq_some_iff.1 hk).1
  have hc := List.getElem?_eq_getElem (show k < css.length by omega)
  have hf := List.getElem?_eq_getElem (show k < Fs.length by omega)
  generalize css[k]'(by omega) = c at hc
  generalize Fs[k]'(by omega) = f at hf
  obtain ⟨_, hrel⟩ := g8 k c x f hc hk hf
  have hel : ∀ j (c : List Value), css[j]? = some c → ∃ y, xs[j]? = some y ∧ Rel rd c y := fun j c hj => by
    have hjl := (List.getElem?_eq_some_iff.1 hj).1
    have e := List.getElem?_eq_getElem (show j < xs.length by omega)
    exact ⟨_, e, (g8 j c _ _ hj e (List.getElem?_eq_getElem (show j < Fs.length by omega))).2⟩
  have hcl : ∀ c, c ∈ css → c.length = n := fun c hc' => by
    obtain ⟨j, hj⟩ := List.getElem?_of_mem hc'
    obtain ⟨y, _, hr⟩ := hel j c hj
    exact ok.len _ _ _ hr
  have hA : (css.take k).flatten.length = k * n := by
    rw [flat_len (n := n) _ fun c hc' => hcl c (List.mem_of_mem_take hc'), List.length_take]
    congr 1; omega
  refine ⟨bl, _, (css.take k).flatten, c, (css.drop (k + 1)).flatten, fun K hK => ?_, g3, g4, split_at hc, hA, hcl c (List.mem_of_getElem? hc), hrel, List.mem_cons_self, fun σ' c' x' r' hr' hcells hl' hx' hle => ?_⟩
  · refine ⟨⟨bl, 0, none⟩, xs.length, cap, .i64, (k : Nat), rfl, rfl, by omega, by omega, ?_⟩
    rw [addr_add, Int.toNat_natCast, Nat.zero_add]; exact hK
  · have hl : (xs.set k x').length = xs.length := List.length_set
    rw [← hl]
    refine RSl.own (cs := css.set k c') (tail := []) g3 hr' ?_ (fun c0 hc' => ?_) (by rw [List.length_set, hl]; exact g5) (by rw [hl]; exact g2) fun j c0 y hj hy => ?_
    · rw [hcells, List.append_nil, split_at (l := css.set k c') (j := k) (c := c') (by rw [List.getElem?_set_self (by omega)]), List.take_set_of_le (Nat.le_refl _), List.drop_set_of_lt (by omega)]
    · rcases List.mem_or_eq_of_mem_set hc' with e | e
      · exact hcl c0 e
      · rw [e]; exact hl'
    · by_cases e : k = j
      · subst e
        rw [List.getElem?_set_self (by omega)] at hj hy
        cases hj; cases hy
        exact hx'
      · rw [List.getElem?_set_ne e] at hj hy
        obtain ⟨z, hz, hr⟩ := hel j c0 hj
        rw [hy] at hz; cases hz
        exact ok.mono _ _ _ _ hle hr

/-- What a draw of entries gives. -/
abbrev OutER (w0 : World) (σ : Vw) (b p : Nat) (R : Value → Vw → Prop) : Prop := ∀ v (xs : List En) s, RD w0 s b p → Keeps (σ.del b) (s.del b) → RSl 5 REn (Av.get w0 (s.del b)) v xs → xs.length ≤ 30000 → R v s

theorem row_one {s : Vw} {n : Nat} {x : ByteArray} (hn : w0.heap.size ≤ n) (hr : s n = some ⟨t_string, [.string x], 1, (0, 0)⟩) (hx : x.size ≤ 9223372036854775807) : RSl 1 RS (Av.get w0 s) (.slice (some ⟨n, 0, none⟩) 1 1) [x] :=
  row_strs (xs := [x]) (k := 1) hn hr (fun y hy => by rw [List.mem_singleton.1 hy]; exact hx) (by simp)

set_option maxHeartbeats 4000000 in
theorem spec_l4SpoilEntries {b p : Nat} {v : Value} {xs : List En} (h : RD w0 σ b p) (hp : p ≤ 900000) (hv : RSl 5 REn (Av.get w0 (σ.del b)) v xs) (hl : xs.length ≤ 10000) (hd : ∀ x, x ∈ xs → datE 1000 x) {R : Value → Vw → Prop} (hR : OutER w0 σ b (p + 20) R) : AC Tryz.prog w0 n_spec_l4SpoilEntries [ptr b, v] σ R := by
  refine ac_spec_l4SpoilEntries ?_
  unfold vc_spec_l4SpoilEntries
  intro n0 g1 g2
  obtain ⟨hne0, hrd0, k0⟩ := h.new (r := ⟨t_impl_Entry, [], 0, (0, 0)⟩) g2
  have okB := ok_base rok_en w0 (Av.get w0 (σ.del b))
  refine (OAcc.new (w0 := w0) (σ := σ) (ety := t_impl_Entry) (n := 5) (O := OB REn (Av.get w0 (σ.del b))) g1).allX okB hv (k0.trans del_keeps).le (fun es y hy => ⟨rfl, hy⟩) (by simp; omega) (by omega) fun v2 F s3 x3 kb o f => ?_
  rw [List.nil_append] at o
  have hbF : b ∉ F := fun hb => by
    rcases f b hb with e | e
    · exact hne0 (List.mem_singleton.1 e).symm
    · exact hrd0.at e
  have hrd3 : RD w0 s3 b p := hrd0.keep (by
    cases hb : (σ.put n0 ⟨t_impl_Entry, [], 0, (0, 0)⟩ : Vw) b with
    | none => exact absurd hb hrd0.at
    | some r => exact kb b r hb fun e => hne0 (List.mem_singleton.1 e).symm)
  have K3 : Keeps (σ.del b) (s3.del b) := fun i r hi => by
    obtain ⟨e1, e2⟩ := del_some hi
    have e3 := k0 i r hi
    rw [del_ne e1] at e3 ⊢
    exact kb i r e3 fun e => by rw [List.mem_singleton.1 e] at e2; rw [g2] at e2; cases e2
  have hF : ∀ i, i ∈ F → (σ.del b) i = none ∧ i ≠ b := fun i hi => by
    have hib : i ≠ b := fun e => hbF (e ▸ hi)
    refine ⟨?_, hib⟩
    rw [del_ne hib]
    rcases f i hi with e | e
    · rw [List.mem_singleton.1 e]; exact g2
    · by_cases e2 : i = n0
      · rw [e2]; exact g2
      · rw [put_ne e2] at e; exact e
  have r3 : RSl 5 REn (Av.get w0 (s3.del b)) v2 xs := RSl.unbase rok_en ((OAcc.osl (OAcc.frame (σ' := s3.del b) okB o fun i hi => del_ne (hF i hi).2)).rel okB) K3.le
  rw [r3.len, pBin_eq, pIf_d]
  refine ⟨fun _ => ?_, fun hne => ?_⟩
  · refine spec_pick (n := 6) hrd3 (by omega) (by omega) fun j s4 hj hrd4 hd4 _ => ?_
    have k4 : Keeps (s3.del b) (s4.del b) := by rw [hd4]; exact Keeps.refl _
    rw [pVal1 rfl, pVal1 rfl, pVal1 rfl]
    have hsz : ∀ x, x ∈ [(⟨#[97]⟩ : ByteArray), ⟨#[122, 122]⟩, ⟨#[]⟩] → x.size ≤ 7 := by
      intro x hx
      simp at hx
      rcases hx with rfl | rfl | rfl <;> decide
    refine of_lit (xs := [(⟨#[97]⟩ : ByteArray), ⟨#[122, 122]⟩, ⟨#[]⟩]) hrd4 (by omega) (by simp) (fun x hx => by have := hsz x hx; omega) rfl rfl fun x s5 hx hrd5 k5 => ?_
    have hxs := hsz x hx
    rw [pVal1 rfl]
    intro n12 g3 g4
    obtain ⟨hne5, hrd6, k6⟩ := hrd5.new (r := ⟨t_string, [.string x], 1, (0, 0)⟩) g4
    rw [pVal1 rfl, pVal1 rfl, pVal_5 rfl rfl rfl rfl rfl]
    intro n14 g5 g6
    obtain ⟨hne6, hrd7, k7⟩ := hrd6.new (r := ⟨t_impl_Entry, [.slice (some (Addr.mk n12 0 none)) 1 1, .int .i64 (j : Nat), .bool false, .int .i64 0, .string ⟨#[]⟩], 5, (0, 0)⟩) g6
    have hrow := (row_one (s := (s5.put n12 ⟨t_string, [.string x], 1, (0, 0)⟩).del b) (x := x) g3 (by rw [del_ne hne5]; exact put_at) (by omega)).mono k7.le fun _ _ h => h
    refine hR _ [(([x], (j : Int), false, 0, (⟨#[]⟩ : ByteArray)) : En)] _ (hrd7.more (by omega)) ((((K3.trans k4).trans k5).trans k6).trans k7) ?_ (by simp)
    refine RSl.own (xs := [(([x], (j : Int), false, 0, (⟨#[]⟩ : ByteArray)) : En)]) (cs := [[.slice (some (Addr.mk n12 0 none)) 1 1, .int .i64 (j : Nat), .bool false, .int .i64 0, .string ⟨#[]⟩]]) (tail := []) g5 (by rw [del_ne hne6]; exact put_at) rfl (fun c hc => by rw [List.mem_singleton.1 hc]; rfl) rfl (by simp) fun i c y hi hy => ?_
    cases i with
    | zero => cases hi; cases hy; exact ⟨_, rfl, hrow, by simp only; omega, by simp, by show (0 : Nat) ≤ _; omega⟩
    | succ i => cases hi
  rw [r3.len]
  refine spec_pick (n := xs.length) hrd3 (by omega) (by omega) fun k s4 hk hrd4 hd4 ho4 => ?_
  have k4 : Keeps (s3.del b) (s4.del b) := by rw [hd4]; exact Keeps.refl _
  refine spec_pick (n := 8) hrd4 (by omega) (by omega) fun j s5 hj hrd5 hd5 ho5 => ?_
  have k5 : Keeps (s4.del b) (s5.del b) := by rw [hd5]; exact Keeps.refl _
  have K5 := (K3.trans k4).trans k5
  have o5 := o.frame (σ' := s5) okB fun i hi => by rw [ho5 i (hF i hi).2, ho4 i (hF i hi).2]
  have r5 := r3.mono (k4.trans k5).le fun _ _ => mono_en (k4.trans k5).le
  have hx := List.getElem?_eq_getElem hk
  generalize xs[k]'hk = x at hx
  have hxd := hd x (List.mem_of_getElem? hx)
  unfold datE at hxd
  obtain ⟨bl, r, A, c, C, hix, hbl, hr, hcells, hA, hcl, hrel, hblF, hput⟩ := OB_at rok_en o5 hx
  have hblb : bl ≠ b := (hF bl hblF).2
  obtain ⟨u, rfl, hu, hok⟩ := hrel
  -- what is handed back once the entry is written
  have fin : ∀ (s' : Vw) (q : Nat) (c' : List Value) (x' : En) (r' : Row), RD w0 s' b q → q ≤ p + 20 → Keeps (σ.del b) (s'.del b) → s' bl = some r' → r'.cells = A ++ (c' ++ C) → c'.length = 5 → REn (Av.get w0 (s'.del b)) c' x' → R v2 s' := fun s' q c' x' r' t1 t2 t3 t4 t5 t6 t7 =>
    hR v2 (xs.set k x') s' (t1.more t2) t3 (hput (s'.del b) c' x' r' (by rw [del_ne hblb]; exact t4) t5 t6 t7 t3.le) (by rw [List.length_set]; omega)
  have stK : ∀ (s' : Vw) (c : List Value), Keeps (σ.del b) (s'.del b) → Keeps (σ.del b) ((s'.put bl ⟨r.ety, A ++ (c ++ C), r.cap, r.fz⟩).del b) := fun s' c kk i y hi => by
    obtain ⟨e1, e2⟩ := del_some hi
    have e3 := kk i y hi
    rw [del_ne e1] at e3 ⊢
    have e4 : i ≠ bl := fun e => by rw [e, (hF bl hblF).1] at hi; cases hi
    rw [put_ne e4]; exact e3
  have hrb : ∀ {s' : Vw}, (∀ i, i ≠ b → s5 i ≠ none → s' i = s5 i) → s' bl = some r := fun h => by rw [h bl hblb (by rw [hr]; simp)]; exact hr
  have hpn : ∀ {n : Nat} {row : Row} {i : Nat}, s5 n = none → s5 i ≠ none → (s5.put n row) i = s5 i := fun hn hi => put_ne fun e => hi (by rw [e]; exact hn)
  rw [pBin_eq, pIf_d]
  refine ⟨fun _ => ?_, fun _ => ?_⟩
  · refine spec_pick (n := 6) hrd5 (by omega) (by omega) fun m s6 hm hrd6 hd6 ho6 => ?_
    have k6 : Keeps (s5.del b) (s6.del b) := by rw [hd6]; exact Keeps.refl _
    have hr6 := hrb fun i hi _ => ho6 i hi
    refine hix _ ?_
    refine field_store (c := [u, .int .i64 x.2.1, .bool x.2.2.1, .int .i64 x.2.2.2.1, .string x.2.2.2.2]) hr6 hcells hA (by simp) rfl ?_
    simp only [List.set_cons_succ, List.set_cons_zero]
    exact fin _ (p + 1 + 1 + 1) _ (x.1, (m : Int), x.2.2) _ (hrd6.keep (put_ne hblb.symm)) (by omega) (stK s6 _ (K5.trans k6)) put_at rfl rfl ⟨u, rfl, hu.mono (stK s6 _ (K5.trans k6)).le fun _ _ h => h, by simp only; omega, hok.2⟩
  rw [pBin_eq, pIf_d]
  refine ⟨fun _ => ?_, fun _ => ?_⟩
  · refine hix _ ?_
    refine field_load (c := [u, .int .i64 x.2.1, .bool x.2.2.1, .int .i64 x.2.2.2.1, .string x.2.2.2.2]) hbl hr hcells hA (by rfl) fun g hg => ?_
    rw [hg, pUn_not]
    refine hix _ ?_
    refine field_store (c := [u, .int .i64 x.2.1, .bool x.2.2.1, .int .i64 x.2.2.2.1, .string x.2.2.2.2]) hr hcells hA (by simp) rfl ?_
    simp only [List.set_cons_succ, List.set_cons_zero]
    exact fin _ (p + 1 + 1) _ (x.1, x.2.1, !x.2.2.1, x.2.2.2) _ (hrd5.keep (put_ne hblb.symm)) (by omega) (stK s5 _ K5) put_at rfl rfl ⟨u, rfl, hu.mono (stK s5 _ K5).le fun _ _ h => h, hok⟩
  rw [pBin_eq, pIf_d]
  refine ⟨fun _ => ?_, fun _ => ?_⟩
  · rw [pVal1 rfl, pVal1 rfl, pVal1 rfl, pVal1 rfl]
    intro n36 g3 g4
    obtain ⟨hne6, hrd6, k6⟩ := hrd5.new (r := ⟨t_int, [.int .i64 (-1), .int .i64 0, .int .i64 8, .int .i64 3], 4, (0, 0)⟩) g4
    refine spec_pick (n := 4) hrd6 (by omega) (by omega) fun m s7 hm hrd7 hd7 ho7 => ?_
    have k7 : Keeps ((s5.put n36 ⟨t_int, [.int .i64 (-1), .int .i64 0, .int .i64 8, .int .i64 3], 4, (0, 0)⟩).del b) (s7.del b) := by rw [hd7]; exact Keeps.refl _
    have hr7 : s7 bl = some r := hrb fun i hi hi' => by rw [ho7 i hi, hpn g4 hi']
    refine int_at (xs := [-1, 0, 8, 3]) g3 (by rw [ho7 n36 hne6]; exact put_at) rfl hm fun z hz g hg => ?_
    have hz : -1 ≤ z ∧ z ≤ 8 := by simp at hz; omega
    rw [hg]
    refine hix _ ?_
    refine field_store (c := [u, .int .i64 x.2.1, .bool x.2.2.1, .int .i64 x.2.2.2.1, .string x.2.2.2.2]) hr7 hcells hA (by simp) rfl ?_
    simp only [List.set_cons_succ, List.set_cons_zero]
    have K7 := (K5.trans k6).trans k7
    exact fin _ (p + 1 + 1 + 1) _ (x.1, x.2.1, x.2.2.1, z, x.2.2.2.2) _ (hrd7.keep (put_ne hblb.symm)) (by omega) (stK s7 _ K7) put_at rfl rfl ⟨u, rfl, hu.mono (stK s7 _ K7).le fun _ _ h => h, hok.1, by simp only; omega, hok.2.2⟩
  rw [pBin_eq, pIf_d]
  refine ⟨fun _ => ?_, fun _ => ?_⟩
  · refine hix _ ?_
    refine field_ldp (c := [u, .int .i64 x.2.1, .bool x.2.2.1, .int .i64 x.2.2.2.1, .string x.2.2.2.2]) hbl hr hcells hA (by rfl) fun g hg => ?_
    refine spec_pick (n := 2) hrd5 (by omega) (by omega) fun m s6 hm hrd6 hd6 ho6 => ?_
    have k6 : Keeps (s5.del b) (s6.del b) := by rw [hd6]; exact Keeps.refl _
    have hr6 := hrb fun i hi _ => ho6 i hi
    refine ⟨stay_at (ho6 bl hblb), ?_⟩
    rw [pBin_mul (by omega), pBin_add (by omega), show (24 : Int) * (m : Nat) + 1 = ((24 * m + 1 : Nat) : Int) by omega]
    have e1 : (⟨#[120]⟩ : ByteArray).size = 1 := rfl
    refine spec_l1Many (by rw [e1]; omega) (by rw [e1]; omega) (by omega) fun t ht => ?_
    rw [e1] at ht
    refine ⟨stay_at rfl, ?_⟩
    rw [hg, pBin_cat (by omega)]
    refine hix _ ?_
    refine field_store (c := [u, .int .i64 x.2.1, .bool x.2.2.1, .int .i64 x.2.2.2.1, .string x.2.2.2.2]) hr6 hcells hA (by simp) rfl ?_
    simp only [List.set_cons_succ, List.set_cons_zero]
    exact fin _ (p + 1 + 1 + 1) _ (x.1, x.2.1, x.2.2.1, x.2.2.2.1, x.2.2.2.2 ++ t) _ (hrd6.keep (put_ne hblb.symm)) (by omega) (stK s6 _ (K5.trans k6)) put_at rfl rfl ⟨u, rfl, hu.mono (stK s6 _ (K5.trans k6)).le fun _ _ h => h, hok.1, hok.2.1, by simp only [ByteArray.size_append]; omega⟩
  rw [pBin_eq, pIf_d]
  refine ⟨fun _ => ?_, fun _ => ?_⟩
  · rw [pVal1 rfl, pVal1 rfl, pVal1 rfl, pVal1 rfl]
    have hsz : ∀ x, x ∈ [(⟨#[97]⟩ : ByteArray), ⟨#[122, 122]⟩, ⟨#[65]⟩, ⟨#[]⟩] → x.size ≤ 7 := by
      intro x hx
      simp at hx
      rcases hx with rfl | rfl | rfl | rfl <;> decide
    intro n60 g3 g4
    obtain ⟨hne6, hrd6, k6⟩ := hrd5.new (r := ⟨t_string, [.string ⟨#[97]⟩, .string ⟨#[122, 122]⟩, .string ⟨#[65]⟩, .string ⟨#[]⟩], 4, (0, 0)⟩) g4
    refine spec_of hrd6 (by omega) (row_strs (xs := [(⟨#[97]⟩ : ByteArray), ⟨#[122, 122]⟩, ⟨#[65]⟩, ⟨#[]⟩]) (k := 4) g3 (by rw [del_ne hne6]; exact put_at) (fun x hx => by have := hsz x hx; omega) (by simp)) (by simp) fun y s7 hy hrd7 hd7 ho7 => ?_
    have hys := hsz y hy
    have k7 : Keeps ((s5.put n60 ⟨t_string, [.string ⟨#[97]⟩, .string ⟨#[122, 122]⟩, .string ⟨#[65]⟩, .string ⟨#[]⟩], 4, (0, 0)⟩).del b) (s7.del b) := by rw [hd7]; exact Keeps.refl _
    rw [pVal1 rfl]
    intro n64 g5 g6
    obtain ⟨hne8, hrd8, k8⟩ := hrd7.new (r := ⟨t_string, [.string y], 1, (0, 0)⟩) g6
    have hr8 : (s7.put n64 ⟨t_string, [.string y], 1, (0, 0)⟩ : Vw) bl = some r := by
      have hr7 : s7 bl = some r := hrb fun i hi hi' => by rw [ho7 i hi, hpn g4 hi']
      rw [put_ne fun e => by rw [e, g6] at hr7; cases hr7]; exact hr7
    refine hix _ ?_
    refine field_store (c := [u, .int .i64 x.2.1, .bool x.2.2.1, .int .i64 x.2.2.2.1, .string x.2.2.2.2]) hr8 hcells hA (by simp) rfl ?_
    simp only [List.set_cons_succ, List.set_cons_zero]
    have K8 := ((K5.trans k6).trans k7).trans k8
    have hn64 : n64 ≠ bl := fun e => by rw [e] at g6; rw [hrb (s' := s7) fun i hi hi' => by rw [ho7 i hi, hpn g4 hi']] at g6; cases g6
    exact fin _ (p + 1 + 1 + 1) _ ([y], x.2) _ (hrd8.keep (put_ne hblb.symm)) (by omega) (stK _ _ K8) put_at rfl rfl ⟨_, rfl, row_one g5 (by rw [del_ne hne8, put_ne hn64]; exact put_at) (by omega), hok⟩
  rw [pBin_eq, pIf_d]
  refine ⟨fun _ => ?_, fun _ => ?_⟩
  · intro n70 g3 g4
    obtain ⟨hne6, hrd6, k6⟩ := hrd5.new (r := ⟨t_string, [], 0, (0, 0)⟩) g4
    have hr6 : (s5.put n70 ⟨t_string, [], 0, (0, 0)⟩ : Vw) bl = some r := by rw [put_ne fun e => by rw [e, g4] at hr; cases hr]; exact hr
    refine hix _ ?_
    refine field_store (c := [u, .int .i64 x.2.1, .bool x.2.2.1, .int .i64 x.2.2.2.1, .string x.2.2.2.2]) hr6 hcells hA (by simp) rfl ?_
    simp only [List.set_cons_succ, List.set_cons_zero]
    have K6 := K5.trans k6
    exact fin _ (p + 1 + 1) _ ([], x.2) _ (hrd6.keep (put_ne hblb.symm)) (by omega) (stK _ _ K6) put_at rfl rfl ⟨_, rfl, nilPath, hok⟩
  -- a list in a row of its own
  have okD := ok_base rok_en w0 (Av.get w0 (s5.del b))
  have cat : ∀ (n : Nat) (v76 : Value) (ys : List En), w0.heap.size ≤ n → s5 n = none → RSl 5 REn (Av.get w0 (s5.del b)) v76 ys → ys.length ≤ 10000 → ∀ {K : Value → Vw → Prop},
      (∀ v' F' s', RD w0 s' b (p + 1 + 1) → Keeps (s5.del b) (s'.del b) → b ∉ F' → OAcc w0 t_impl_Entry 5 (OB REn (Av.get w0 (s5.del b))) s' F' v' ys → (∀ i, i ∈ F' → s5 i = none) → K v' s') → pAppendS w0 t_impl_Entry 5 64 (.slice (some (Addr.mk n 0 none)) 0 0) v76 (s5.put n ⟨t_impl_Entry, [], 0, (0, 0)⟩) K := by
    intro n v76 ys g3 g4 hys hyl K hK
    obtain ⟨hne6, hrd6, k6⟩ := hrd5.new (r := ⟨t_impl_Entry, [], 0, (0, 0)⟩) g4
    refine (OAcc.new (w0 := w0) (σ := s5) (ety := t_impl_Entry) (n := 5) (O := OB REn (Av.get w0 (s5.del b))) g3).allX okD hys (k6.trans del_keeps).le (fun es y hy => ⟨rfl, hy⟩) (by simp; omega) (by omega) fun v' F' s' x' kb' o' f' => ?_
    rw [List.nil_append] at o'
    have hF' : ∀ i, i ∈ F' → s5 i = none := fun i hi => by
      rcases f' i hi with e | e
      · rw [List.mem_singleton.1 e]; exact g4
      · by_cases e2 : i = n
        · rw [e2]; exact g4
        · rw [put_ne e2] at e; exact e
    have hkp : ∀ i r, s5 i = some r → s' i = some r := fun i r hi => kb' i r (by rw [put_ne fun e => by rw [e, g4] at hi; cases hi]; exact hi) fun e => by rw [List.mem_singleton.1 e, g4] at hi; cases hi
    have hsb : s' b = s5 b := by
      cases hb : s5 b with
      | none => exact absurd hb hrd5.at
      | some r => exact hkp b r hb
    refine hK v' F' s' (hrd5.keep hsb) (fun i r hi => ?_) (fun hb => hrd5.at (hF' b hb)) o' hF'
    obtain ⟨e1, e2⟩ := del_some hi
    rw [del_ne e1]; exact hkp i r e2
  -- what is handed back when the list is whole
  have out : ∀ {v' : Value} {F' : List Nat} {s' : Vw} {q : Nat} {ys : List En}, RD w0 s' b q → q ≤ p + 20 → Keeps (s5.del b) (s'.del b) → b ∉ F' → OAcc w0 t_impl_Entry 5 (OB REn (Av.get w0 (s5.del b))) s' F' v' ys → ys.length ≤ 30000 → R v' s' := fun {v' F' s' q ys} t1 t2 t3 t4 t5 t6 =>
    hR v' ys s' (t1.more t2) (K5.trans t3) (RSl.unbase rok_en ((OAcc.osl (OAcc.frame (σ' := s'.del b) okD t5 fun i hi => del_ne fun e => t4 (e ▸ hi))).rel okD) t3.le) t6
  -- what an append to it keeps
  have step : ∀ {s' s'' : Vw} {F' F'' : List Nat} {q : Nat}, RD w0 s' b q → Keeps (s5.del b) (s'.del b) → b ∉ F' → (∀ i, i ∈ F' → s5 i = none) → KeepsBut F' s' s'' → (∀ i, i ∈ F'' → i ∈ F' ∨ s' i = none) → RD w0 s'' b q ∧ Keeps (s5.del b) (s''.del b) ∧ b ∉ F'' ∧ (∀ i, i ∈ F'' → s5 i = none) := by
    intro s' s'' F' F'' q t1 t2 t3 t4 t5 t6
    have hsb : s'' b = s' b := by
      cases hb : s' b with
      | none => exact absurd hb t1.at
      | some r => exact t5 b r hb t3
    refine ⟨t1.keep hsb, fun i r hi => ?_, fun hb => ?_, fun i hi => ?_⟩
    · obtain ⟨e1, e2⟩ := del_some hi
      have e3 := t2 i r hi
      rw [del_ne e1] at e3 ⊢
      exact t5 i r e3 fun e => by rw [t4 i e] at e2; cases e2
    · rcases t6 b hb with e | e
      · exact t3 e
      · exact t1.at e
    · rcases t6 i hi with e | e
      · exact t4 i e
      · by_cases hib : i = b
        · subst hib; exact absurd e t1.at
        · cases h5 : s5 i with
          | none => rfl
          | some r =>
            have := t2 i r (by rw [del_ne hib]; exact h5)
            rw [del_ne hib, e] at this; cases this
  rw [pBin_eq, pIf_d]
  refine ⟨fun _ => ?_, fun _ => ?_⟩
  · refine r5.slice (l := 0) (u := k) rfl rfl (by omega) (by omega) fun v76 r76 => ?_
    rw [pBin_add (by omega), show ((k : Nat) : Int) + 1 = ((k + 1 : Nat) : Int) by omega]
    refine r5.slice (l := k + 1) (u := xs.length) rfl rfl (by omega) (by omega) fun v78 r78 => ?_
    intro n79 g3 g4
    refine cat n79 v76 _ g3 g4 r76 (by simp; omega) fun v81 F1 s6 t1 t2 t3 t4 t5 => ?_
    refine t4.allX okD r78 (t2.trans del_keeps).le (fun es y hy => ⟨rfl, hy⟩) (by simp; omega) (by omega) fun v83 F2 s7 _ kb7 o7 f7 => ?_
    obtain ⟨q1, q2, q3, q4⟩ := step t1 t2 t3 t5 kb7 f7
    exact out q1 (by omega) q2 q3 o7 (by simp; omega)
  · refine r5.slice (l := 0) (u := k) rfl rfl (by omega) (by omega) fun v85 r85 => ?_
    rw [r5.len]
    refine r5.slice (l := k) (u := xs.length) rfl rfl (by omega) (by omega) fun v87 r87 => ?_
    intro n88 g3 g4
    refine cat n88 v85 _ g3 g4 r85 (by simp; omega) fun v90 F1 s6 t1 t2 t3 t4 t5 => ?_
    refine spec_pick (n := xs.length) t1 (by omega) (by omega) fun m s7 hm hrd7 hd7 ho7 => ?_
    have k7 : Keeps (s6.del b) (s7.del b) := by rw [hd7]; exact Keeps.refl _
    have t2' := t2.trans k7
    have t4' := t4.frame (σ' := s7) okD fun i hi => ho7 i fun e => t3 (e ▸ hi)
    have hxm := List.getElem?_eq_getElem hm
    generalize xs[m]'hm = z at hxm
    have hs7 : ∀ i, i ∈ F → s7 i = s5 i := fun i hi => by
      have e1 := (hF i hi).2
      cases h5 : s5 i with
      | none => exact absurd h5 (o5.dom okB i hi).2
      | some r =>
        have := t2' i r (by rw [del_ne e1]; exact h5)
        rw [del_ne e1] at this; exact this
    have o7 := (OAcc.rebase rok_en o5 K5.le).frame (σ' := s7) okD hs7
    refine ((OAcc.osl o7).rel okD).at hxm fun g hg => ?_
    have hg0 : REn (Av.get w0 (s5.del b)) (expl g 0 5) z := hg
    obtain ⟨uu, hgu, ru, rok⟩ := hg0
    simp only [expl, List.cons.injEq, and_true] at hgu
    obtain ⟨e0, e1, e2, e3, e4⟩ := hgu
    rw [e0, e1, e2, e3, e4, pVal_5 ru.one rfl rfl rfl rfl]
    refine t4'.one okD (f := []) (y := z) ⟨rfl, ⟨uu, rfl, ru, rok⟩⟩ (fun i hi => by cases hi) (by simp; omega) (by omega) fun v96 F2 s8 kb8 o8 f8 => ?_
    obtain ⟨q1, q2, q3, q4⟩ := step hrd7 t2' t3 t5 kb8 fun i hi => by
      rcases f8 i hi with e | e | e
      · exact .inl e
      · cases e
      · exact .inr e
    refine o8.allX okD r87 (q2.trans del_keeps).le (fun es y hy => ⟨rfl, hy⟩) (by simp; omega) (by omega) fun v98 F3 s9 _ kb9 o9 f9 => ?_
    obtain ⟨w1, w2, w3, w4⟩ := step q1 q2 q3 q4 kb9 f9
    exact out w1 (by omega) w2 w3 o9 (by simp; omega)
end
end Go.Proofs.YtkbhjejalkbogaaGreatDoor

/- The law LayerText. -/
set_option linter.unusedVariables false
set_option linter.unusedSimpArgs false
set_option maxRecDepth 20000
namespace Go.Proofs.YtkbhjejalkbogaaGreatDoor
open Go Go.Av Go.RowKit

theorem layX_size (xs : List En) : (layX xs).size ≤ 6000 := by
  unfold layX
  split
  · rename_i h; exact h.2
  · exact Nat.zero_le _
theorem readE_write {text : ByteArray} (h : (readE text).2 = true) : layX (readE text).1 = text := by
  unfold readE at h ⊢
  split
  · rename_i hc
    simp only
    rw [layX, if_pos ⟨hc.2.1, by rw [hc.2.2]; exact hc.1⟩, hc.2.2]
  · rename_i hc
    rw [if_neg hc] at h; cases h
theorem write_read {xs : List En} (h : layX xs ≠ ⟨#[]⟩) : readE (layX xs) = (xs, true) := by
  unfold layX at h ⊢
  split
  · rename_i hc
    exact read_yes hc.2 (fun x hx => by
      obtain ⟨i, hi⟩ := List.getElem?_of_mem hx
      exact allB_iff.1 hc.1 i x hi) rfl
  · rename_i hc
    rw [if_neg hc] at h; exact absurd rfl h
theorem readE_len (text : ByteArray) : (readE text).1.length ≤ 1000000 := by
  have h1 := readE_sum text
  have h2 : ∀ l : List En, l.length ≤ sumBy cEn l := fun l => by
    induction l with
    | nil => simp
    | cons a r ih => simp only [sumBy, cEn, List.length_cons]; omega
  exact Nat.le_trans (h2 _) h1

section
variable {w0 : World} {σ : Vw}

theorem spec_l4Entries {b p N S : Nat} {es : List Value} {x : Tr} (h : RD w0 σ b p) (hp : p ≤ 800000) (hN : 11 ≤ N) (hS : 40000000 ≤ S ∧ S ≤ 900000000) (ht : RT N (Av.get w0 (σ.del b)) es x) (hs : szT N x ≤ S) {R : Value → Vw → Prop}
    (hR : ∀ v (xs : List En) s, RD w0 s b (p + 600) → Keeps (σ.del b) (s.del b) → RSl 5 REn (Av.get w0 (s.del b)) v xs → xs.length ≤ 10000 → (∀ e, e ∈ xs → datE 1000 e) → R v s) : AC Tryz.prog w0 n_spec_l4Entries [ptr b, .agg ⟨es⟩] σ R := by
  have ht0 := ht
  obtain ⟨c0, c1, c2, c3, c4, rfl, hp5⟩ := ht.shape
  refine ac_spec_l4Entries ?_
  unfold vc_spec_l4Entries
  rw [hp5]
  simp only [cellOf_agg, List.getD_cons_zero, List.getD_cons_succ]
  refine spec_pick (n := 9) h (by omega) (by omega) fun j s1 hj hrd1 hd1 _ => ?_
  have k1 : Keeps (σ.del b) (s1.del b) := by rw [hd1]; exact Keeps.refl _
  have ht1 := mono_rt _ _ _ _ _ k1.le ht0
  refine spec_l4Calls (N := N) (S := S) hrd1 (by omega) (by omega) hN hS ht1 hs fun es' y s2 hrd2 k2 hy hys => ?_
  have ht2 := mono_rt _ _ _ _ _ k2.le ht1
  refine spec_DiffWalk (mono_rt _ _ _ _ _ del_le ht2) (mono_rt _ _ _ _ _ del_le hy) (Nat.le_trans (cnt_le N x) (by omega)) (Nat.le_trans (cnt_le N y) (by omega)) fun v F s3 k3 o3 f3 => ?_
  have hFb : ∀ i, i ∈ F → i ≠ b := fun i hi e => hrd2.at (e ▸ f3 i hi)
  exact hR v _ s3 ((hrd2.kept k3).more (by omega)) ((k1.trans k2).trans (keeps_del k3)) ((OSl.frame (σ' := s3.del b) (ok_en w0) o3 fun i hi => del_ne (hFb i hi)).rel (ok_en w0)) diffX_len diffX_dat

theorem spec_DrawLayerRead {u : Value} {bs : List Nat} (h : Bytes w0 u bs) {R : Value → Vw → Prop} (hR : ∀ t s, t.size ≤ 102000 → Keeps σ s → R (.string t) s) : AC Tryz.prog w0 n_spec_DrawLayerRead [u] σ R := by
  refine ac_spec_DrawLayerRead ?_
  unfold vc_spec_DrawLayerRead
  refine spec_l1Open h fun b s1 hrd1 hd1 hb1 => ?_
  refine spec_l4Tree hrd1 (by omega) fun es x s2 hrd2 k2 hx hxs => ?_
  refine spec_l4Entries (N := 11) (S := 40000000) hrd2 (by omega) (by omega) (by omega) hx hxs fun v xs s3 hrd3 k3 hv hvl _ => ?_
  refine spec_LayerWrite (hv.mono del_le fun _ _ => mono_en del_le) (by omega) fun s3' k3' => ?_
  have hrd3' := hrd3.kept k3'
  have K3' := k3.trans (keeps_del k3')
  have hsz := layX_size xs
  generalize layX xs = t at hsz
  refine spec_pick (n := 4) hrd3' (by omega) (by omega) fun j s4 hj hrd4 hd4 _ => ?_
  have k4 : Keeps (s3'.del b) (s4.del b) := by rw [hd4]; exact Keeps.refl _
  have K4 := (k2.trans K3').trans k4
  have hpv : ∀ (x : ByteArray) (A : Prop), pVal false 1 (.string x) A ↔ A := fun x A => pVal1 rfl
  have fin : ∀ t' s, t'.size ≤ 102000 → RD w0 s b (0 + 700 + 600 + 1 + 2) → Keeps (s4.del b) (s.del b) → R (.string t') s := fun t' s h1 _ h2 => hR t' s h1 (draw_keeps hd1 (K4.trans h2))
  rw [pBin_eq, pIf_d]
  refine ⟨fun _ => ?_, fun _ => ?_⟩
  · simp only [hpv]
    exact text_cut (xs := [(⟨#[32]⟩ : ByteArray), ⟨#[47]⟩, ⟨#[10]⟩, ⟨#[48]⟩, ⟨#[97]⟩, ⟨#[45]⟩]) hrd4 (by omega) (by omega) (by simp) (fun x hx => by simp at hx; rcases hx with rfl | rfl | rfl | rfl | rfl | rfl <;> decide) rfl rfl fin
  · rw [pBin_eq, pIf_d]
    refine ⟨fun _ => ?_, fun _ => fin t s4 (by omega) (hrd4.more (by omega)) (Keeps.refl _)⟩
    simp only [hpv]
    refine text_end (xs := [(⟨#[103, 111, 110, 101, 32, 47, 10]⟩ : ByteArray), ⟨#[103, 111, 110, 101, 32, 47, 97, 10]⟩, ⟨#[110, 101, 119, 32, 47, 97, 32, 48, 32, 45, 10]⟩, ⟨#[110, 101, 119, 32, 47, 97, 32, 56, 32, 45, 10]⟩, ⟨#[110, 101, 119, 100, 105, 114, 32, 47, 97, 32, 48, 10]⟩, ⟨#[110, 101, 119, 100, 105, 114, 32, 47, 32, 48, 10]⟩, ⟨#[109, 111, 100, 101, 32, 47, 32, 51, 10]⟩, ⟨#[109, 111, 100, 101, 32, 47, 97, 32, 48, 51, 10]⟩, ⟨#[100, 97, 116, 97, 32, 47, 32, 45, 10]⟩, ⟨#[100, 97, 116, 97, 32, 47, 97, 32, 48, 10]⟩, ⟨#[100, 97, 116, 97, 32, 47, 97, 32, 48, 48, 10]⟩, ⟨#[103, 111, 110, 101, 32, 97, 10]⟩, ⟨#[103, 111, 110, 101, 32, 47, 47, 97, 10]⟩, ⟨#[103, 111, 110, 101, 32, 47, 97]⟩, ⟨#[119, 104, 97, 116, 32, 47, 97, 10]⟩]) hrd4 (by omega) (by omega) (by simp) (fun x hx => ?_) rfl rfl fin
    simp at hx
    rcases hx with rfl | rfl | rfl | rfl | rfl | rfl | rfl | rfl | rfl | rfl | rfl | rfl | rfl | rfl | rfl <;> decide

theorem spec_DrawLayerWrite {u : Value} {bs : List Nat} (h : Bytes w0 u bs) {R : Value → Vw → Prop} (hR : ∀ v (xs : List En) s, Keeps σ s → RSl 5 REn (Av.get w0 s) v xs → xs.length ≤ 30000 → R v s) : AC Tryz.prog w0 n_spec_DrawLayerWrite [u] σ R := by
  refine ac_spec_DrawLayerWrite ?_
  unfold vc_spec_DrawLayerWrite
  refine ac_spec_DrawLayerApply ?_
  unfold vc_spec_DrawLayerApply
  refine spec_l1Open h fun b s1 hrd1 hd1 hb1 => ?_
  refine spec_l4Any hrd1 (by omega) fun es x s2 hrd2 k2 hx hxs => ?_
  have hx0 := hx
  obtain ⟨f0, f1, f2, f3, f4, rfl, hp5⟩ := hx.shape
  rw [hp5]
  simp only [cellOf_agg, List.getD_cons_zero, List.getD_cons_succ]
  have fin : ∀ {v : Value} {xs : List En} {s : Vw}, Keeps (s2.del b) (s.del b) → RSl 5 REn (Av.get w0 (s.del b)) v xs → xs.length ≤ 30000 → pVal true 5 (.agg (⟨[f0, f1, f2, f3, f4]⟩)) (pExtract (.tuple (⟨[.agg (⟨[f0, f1, f2, f3, f4]⟩), v]⟩)) 0 (fun v2 => pExtract (.tuple (⟨[.agg (⟨[f0, f1, f2, f3, f4]⟩), v]⟩)) 1 (fun v3 => pVal true 5 v2 (R v3 s)))) := fun k hv hl => by
    rw [hp5, pExtract_s rfl, pExtract_s rfl, hp5]
    exact hR _ _ _ (draw_keeps hd1 (k2.trans k)) (hv.mono del_le fun _ _ => mono_en del_le) hl
  refine spec_TreeOk (mono_rt _ _ _ _ _ del_le hx0) (Nat.le_trans (cnt_le 16 x) (by omega)) (pNotIf.2 ⟨fun _ => ?_, fun _ => ?_⟩)
  · intro n g1 g2
    obtain ⟨hne, hrd3, k3⟩ := hrd2.new (r := ⟨t_impl_Entry, [], 0, (0, 0)⟩) g2
    exact fin (xs := []) k3 ⟨_, 0, rfl, by simp, fun j x h => by simp at h⟩ (by simp)
  · refine spec_l4Entries (N := 16) (S := 50000000) hrd2 (by omega) (by omega) (by omega) hx0 hxs fun v xs s3 hrd3 k3 hv hvl hvd => ?_
    refine spec_pick (n := 3) hrd3 (by omega) (by omega) fun j s4 hj hrd4 hd4 _ => ?_
    have k4 : Keeps (s3.del b) (s4.del b) := by rw [hd4]; exact Keeps.refl _
    have hv4 := hv.mono k4.le fun _ _ => mono_en k4.le
    rw [pBin_eq, pIf_d]
    refine ⟨fun _ => ?_, fun _ => fin (k3.trans k4) hv4 (by omega)⟩
    exact spec_l4SpoilEntries hrd4 (by omega) hv4 hvl hvd fun v' xs' s5 hrd5 k5 hv5 hl5 => fin ((k3.trans k4).trans k5) hv5 hl5

set_option maxHeartbeats 4000000 in
theorem law_LayerText (tab : Tab w0) (mx : MaxL w0) (er : ErrL w0) {u u' : Value} {bs bs' : List Nat} (h : Bytes w0 u bs) (h' : Bytes w0 u' bs') {R : Value → Vw → Prop} (hR : ∀ s, R (.bool true) s) : AC Tryz.prog w0 n_laws_FnLayerText [u, u'] σ R := by
  refine ac_laws_FnLayerText ?_
  unfold vc_laws_FnLayerText
  rw [h.len, pBin_gt, pIf_d]
  refine ⟨fun _ => hR _, fun _ => ?_⟩
  rw [h'.len, pBin_gt, pIf_d]
  refine ⟨fun _ => hR _, fun _ => ?_⟩
  refine spec_DrawLayerRead h fun t s1 ht k1 => ?_
  refine impl_LayerRead tab mx er (by omega) fun v7 F7 s7 k7 o7 _ => ?_
  rw [pExtract_s rfl, pExtract_s rfl]
  refine spec_LayerRead (by omega) fun v8 F8 s8 k8 o8 _ => ?_
  rw [pExtract_s rfl, pExtract_s rfl]
  have eb : ∀ (p q : Bool) (K : Value → Prop), pBin Tryz.prog 4 .neq (.bool p) (.bool q) K ↔ K (.bool !(p == q)) := fun p q K => pBin_b (by kernel_rfl) rfl
  rw [eb, pIf_b]
  refine ⟨fun h => by simp at h, fun _ => ?_⟩
  have r7 := (o7.rel (ok_en w0)).mono k8.le fun _ _ => mono_en k8.le
  refine wtEntries r7 (o8.rel (ok_en w0)) ?_
  rw [decide_eq_true rfl, pUn_not, pIf_b]
  refine ⟨fun h => by simp at h, fun _ => ?_⟩
  have tail : ∀ s, AC Tryz.prog w0 n_spec_DrawLayerWrite [u'] s (fun v21 s22 => AC Tryz.prog w0 n_impl_LayerWrite [v21] s22 (fun v23 s24 => AC Tryz.prog w0 n_impl_LayerRead [v23] s24 (fun v25 s26 => pExtract v25 0 (fun v27 => pExtract v25 1 (fun v28 => AC Tryz.prog w0 n_spec_LayerWrite [v21] s26 (fun v29 s30 => pBin Tryz.prog t_string .eql v23 v29 (fun v31 => pIf v31 (pBin Tryz.prog t_string .eql v23 (.string ({ data := #[] })) (fun v32 => pIf v32 (R (.bool true) s30) (pIf v28 (AC Tryz.prog w0 n_laws_wtEntries [v27, v21] s30 (fun v33 s34 => R v33 s34)) (R (.bool false) s30)))) (R (.bool false) s30)))))))) := fun s => by
    refine spec_DrawLayerWrite h' fun v9 xs s9 k9 h9 hl9 => ?_
    refine impl_LayerWrite tab h9 (by omega) fun s10 k10 => ?_
    have hsz := layX_size xs
    refine impl_LayerRead tab mx er (by omega) fun v11 F11 s11 k11 o11 _ => ?_
    rw [pExtract_s rfl, pExtract_s rfl]
    have K11 := k10.trans k11
    refine spec_LayerWrite (h9.mono K11.le fun _ _ => mono_en K11.le) (by omega) fun s12 k12 => ?_
    rw [pBin_seq, pIf_d]
    refine ⟨fun _ => ?_, fun h => absurd rfl h⟩
    rw [pBin_seq, pIf_d]
    refine ⟨fun _ => hR _, fun hne => ?_⟩
    have e := write_read (xs := xs) hne
    rw [e] at o11
    rw [e, pIf_b]
    refine ⟨fun _ => ?_, fun h => by cases h⟩
    have K12 := K11.trans k12
    refine wtEntries ((o11.rel (ok_en w0)).mono k12.le fun _ _ => mono_en k12.le) (h9.mono K12.le fun _ _ => mono_en K12.le) ?_
    rw [decide_eq_true rfl]
    exact hR _
  rw [pIf_b]
  refine ⟨fun hy => ?_, fun _ => tail _⟩
  have hlen := readE_len t
  refine impl_LayerWrite tab r7 (by omega) fun s9 k9 => ?_
  rw [readE_write hy, pBin_sne, pIf_d]
  exact ⟨fun h => absurd rfl h, fun _ => tail _⟩
end
end Go.Proofs.YtkbhjejalkbogaaGreatDoor

/- The law FnLayerText holds: it returns true, and the input reads as it did. No condition. -/
namespace Go.Proofs.YtkbhjejalkbogaaGreatDoor.fnLayerText
open Go.ChangeShapes Go.WideShapes Go.ChangeAt Go.RowKit Go.Av
set_option linter.unusedVariables false
set_option linter.unusedSimpArgs false
theorem own : ownKnob Tryz.prog.godebug = none := by kernel_rfl
theorem laidOut : laidOutB Tryz.prog = true := by kernel_rfl
abbrev laidL : List (String × DataW Unit) := [("math/bits.deBruijn32tab", Rows.laid_math_bits_deBruijn32tab), ("math/bits.deBruijn64tab", Rows.laid_math_bits_deBruijn64tab), ("internal/strconv.uint64pow10", Rows.laid_internal_strconv_uint64pow10), ("unicode/utf8.acceptRanges", Rows.laid_unicode_utf8_acceptRanges), ("strconv.ErrRange", Rows.laid_strconv_ErrRange), ("strconv.ErrSyntax", Rows.laid_strconv_ErrSyntax), ("unicode/utf8.first", Rows.laid_unicode_utf8_first)]
theorem max_of {W : World} (h : W.ShapedOpen Tryz.prog) : MaxL W := by
  obtain ⟨m, hm⟩ := cell_of_shapedOpen_int (g := 0) (t := 3) (zero := #[.int .i64 0]) (k := .i64) h (of_decide_eq_true (by kernel_rfl)) (by kernel_rfl) rfl (by kernel_rfl) (by kernel_rfl) (by kernel_rfl)
  refine ⟨m, fun w hw => ?_⟩
  have hlt : (0 : Nat) < W.heap.size := by
    rcases Nat.lt_or_ge 0 W.heap.size with h' | h'
    · exact h'
    · simp [World.cell?, Array.getElem?_eq_none h'] at hm
  rw [← hm]
  exact hw.cell hlt
/-- The wrap with a condition of its own, the world's shape kept. -/
theorem wrap {H : Type} {enc : TypeId × Value → H} {a : Assume} {C : Checked} {os : Os} {f : FuncId} {fn : Func} {s : ChangeSpec} {conds : List PathCond} {apart fresh handsOn again : Bool} {X : World → Array Value → Prop}
    (own : ownKnob C.prog.godebug = none) (started : os.Started) (noInit : C.prog.inits.idxOf? f = none) (hfn : C.prog.funcs[f]? = some fn)
    (witness : ∃ (w : World) (tape : Tape) (i : Input), w.os = os ∧ (w.forCall tape i).Shaped C.prog ∧ i.vars = [] ∧ Input.okWide C.prog (w.forCall tape i) .any w.heap.size f i ∧
      ((s.pre enc C.prog fn conds apart (w.forCall tape i).memory i.args ∧ X (w.forCall tape i).memory i.args) ∧ sizedMet enc C.prog fn (OpenSpec.ofChange s) apart (w.forCall tape i).memory i.args) ∧ a.holds C.prog (lone (Frame.enter C.prog f i.args .normal) [] (w.forCall tape i)))
    (hof : ∀ (w w' : World) (args : Array Value), w'.heap = w.heap → X w args → X w' args)
    (contract : ∀ (W : World) (base : Nat) (args : Array Value) (ds gs : List (DataW H)) (before : List MemPlace),
      (∀ (j : Nat) t v, fn.params[j]? = some t → args[j]? = some v → Value.okWide C.prog W .any base t v) →
      DataW.Whole enc C.prog fn.params.toList s.vars apart W args.toList ds gs before → W.ShapedOpen C.prog → X W args →
      Calls C.prog f args W fun e W' => ∃ v, e = .returned v ∧ s.post enc C.prog fn apart fresh handsOn again W args v W') :
    ReturnsInHanded a C os f .any (fun w args => (s.pre enc C.prog fn conds apart w args ∧ X w args) ∧ sizedMet enc C.prog fn (OpenSpec.ofChange s) apart w args) (s.post enc C.prog fn apart fresh handsOn again) := by
  refine returnsInHanded_of_calls own started noInit witness ?_
  intro w tape i _ hsh _ hok hpre hholds
  obtain ⟨_, _, _, fn', hfn', _, _, _, _, hval⟩ := hok
  have e : fn' = fn := Option.some.inj (hfn'.symm.trans hfn)
  subst e
  obtain ⟨⟨⟨ds, gs, before, hw, hc⟩, hx⟩, hz⟩ := hpre
  have hw' := DataW.Whole.of_heap (w' := w.forCall tape i) (by rfl) hw
  refine (contract (w.forCall tape i) w.heap.size i.args ds gs before hval hw' hsh (hof (w.forCall tape i).memory _ _ rfl hx)).mono fun e W' ⟨v, he, hp⟩ => ?_
  subst he
  exact ChangeSpec.post_blind hp
theorem gPow : Tryz.prog.globalNamed "internal/strconv.uint64pow10" = some 5 := by kernel_rfl
theorem tab_of {W : World} (h : laidMetH Tryz.prog laidL W) : Tab W := by
  rw [MakeChecks.laidMetH_plain _ _ _ (by kernel_rfl)] at h
  have h3 := laidMet.tail (laidMet.tail (h))
  have e : (Rows.laid_internal_strconv_uint64pow10 : DataW Unit) = Lib.tabData .u64 Lib.pow10Tab := by kernel_rfl
  rw [e] at h3
  have ht : Lib.TabIs Tryz.prog W "internal/strconv.uint64pow10" .u64 Lib.pow10Tab := Lib.tabIs_of_head (n := 20) (t := 212) (e := 179) gPow (by kernel_rfl) (by kernel_rfl) (by kernel_rfl) (by kernel_rfl) (by kernel_rfl) h3
  intro w hw
  refine var?_below hw gPow ?_ ht
  rcases Nat.lt_or_ge 5 W.heap.size with h' | h'
  · exact h'
  · simp [Lib.TabIs, World.var?, gPow, Array.getElem?_eq_none h'] at ht
theorem star : "*" ++ "errors.errorString" = "*errors.errorString" := by decide
theorem rowE (u : TypeId) (h : Tryz.prog.typeName? 3 u = some "*errors.errorString") : u = 208 :=
  typeName_ptr_named (nm := "errors.errorString") (by rw [star]; kernel_rfl) (by kernel_rfl) (by decide) u (by rw [star]; exact h)
theorem gSyn : Tryz.prog.globalNamed "strconv.ErrSyntax" = some 1 := by kernel_rfl
theorem gRan : Tryz.prog.globalNamed "strconv.ErrRange" = some 2 := by kernel_rfl
theorem low_of {W : World} {n : String} {g : Nat} {cs : Array Value} (hg : Tryz.prog.globalNamed n = some g) (h : W.var? Tryz.prog n = some cs) : g < W.heap.size := by
  rcases Nat.lt_or_ge g W.heap.size with h' | h'
  · exact h'
  · simp [World.var?, hg, Array.getElem?_eq_none h'] at h
theorem err_of {W : World} (h : laidMetH Tryz.prog laidL W) : ErrL W := by
  rw [MakeChecks.laidMetH_plain _ _ _ (by kernel_rfl)] at h
  have hr := laidMet.tail (laidMet.tail (laidMet.tail (laidMet.tail (h))))
  have hs := laidMet.tail (laidMet.tail (laidMet.tail (laidMet.tail (laidMet.tail (h)))))
  obtain ⟨a, t, hv, _⟩ := laid_sentinel hs gSyn (ti := 67)  (by kernel_rfl) Tryz.underlying67 rowE (te := 210) (by kernel_rfl) (f := (fsOf Tryz.prog 210)[0]!) (ts := 9) (by kernel_rfl) (by kernel_rfl) (by kernel_rfl) (by kernel_rfl) (by kernel_rfl) (by kernel_rfl)
  obtain ⟨a', t', hv', _⟩ := laid_sentinel hr gRan (ti := 67)  (by kernel_rfl) Tryz.underlying67 rowE (te := 210) (by kernel_rfl) (f := (fsOf Tryz.prog 210)[0]!) (ts := 9) (by kernel_rfl) (by kernel_rfl) (by kernel_rfl) (by kernel_rfl) (by kernel_rfl) (by kernel_rfl)
  exact ⟨_, _, _, _, fun w hw => ⟨var?_below hw gSyn (low_of gSyn hv) hv, var?_below hw gRan (low_of gRan hv') hv'⟩⟩
set_option maxRecDepth 100000 in
theorem lifted (os : Os) (started : os.Started) (H : Type) (enc : TypeId × Value → H) :
    ReturnsInHanded {} Tryz.checked os 3 .any (fun w args => (Rows.fnLayerTextSpec.pre enc Tryz.prog Tryz.f3 [] false w args ∧ laidMetH Tryz.prog laidL w) ∧ sizedMet enc Tryz.prog Tryz.f3 (OpenSpec.ofChange Rows.fnLayerTextSpec) false w args)
      (Rows.fnLayerTextSpec.post enc Tryz.prog Tryz.f3 false true false false) := by
  refine wrap (C := Tryz.checked) (X := fun w _ => laidMetH Tryz.prog laidL w) own started (by kernel_rfl) Tryz.func3
    (ChangeSpec.witness_shaped (enc := enc) (C := Tryz.checked) (os := os) (X := fun w _ => laidMetH Tryz.prog laidL w) false (World.laidAll Tryz.prog os laidL) #[.slice none 0 0, .slice none 0 0] 8 (World.laidAll_os _ _ _)
      (World.shaped_of_ZipB (by kernel_rfl) (by kernel_rfl)) (by kernel_rfl) (by kernel_rfl) (by kernel_rfl)
      (by rw [MakeChecks.laidMetH_plain _ _ _ (by kernel_rfl)]; exact laidMet_laidAll _ (by kernel_rfl) (by kernel_rfl))) (fun _ _ _ hh h => h.of_heap hh.symm) ?_
  intro W base args ds gs before hval0 hW hsh hL
  have hval : ∀ (j : Nat) t v, Tryz.f3.params[j]? = some t → args[j]? = some v → Value.okWide Tryz.prog W .any base t v := hval0
  have hW' := hW
  obtain ⟨p, q, hA0, hV, rfl, hfz, hnd⟩ := hW
  have hA : DataW.TrodAll enc Tryz.prog W 0 (fun _ => true) true Tryz.f3.params.toList args.toList ds p := hA0
  rw [Tryz.params3] at hA hval
  obtain ⟨v0, v1, d0, d1, p0, p1, rfl, rfl, hpp, h0, h1⟩ := trodAll_two hA
  obtain ⟨rfl, rfl⟩ := trodVars_none hV
  obtain ⟨A0, len0, cap0, rfl⟩ := okWide_slice (t := 22) (e := 5) (by kernel_rfl) (hval 0 22 v0 rfl rfl)
  obtain ⟨A1, len1, cap1, rfl⟩ := okWide_slice (t := 22) (e := 5) (by kernel_rfl) (hval 1 22 v1 rfl rfl)
  have h0k := h0
  obtain ⟨fuel0, hf0⟩ := h0
  have h1k := h1
  obtain ⟨fuel1, hf1⟩ := h1
  clear hA0 hval0
  simp only [List.append_nil] at hW'
  have hlt : ∀ x ∈ p, x.block < W.heap.size := fun x hx => by simpa using hW'.lt x hx
  have hargs0 : ∀ (W' : World), Below W.heap.size W W' → DataW.Trod enc Tryz.prog W' 0 (fun b => decide (b < W.heap.size)) true 22 (.slice A0 len0 cap0) d0 p0 :=
    fun W' hn => Below.trod laidOut (by kernel_rfl) (of_decide_eq_true (by kernel_rfl)) h0k hn (fun x hx => hlt x (by rw [hpp]; simp [hx]))
  have hargs1 : ∀ (W' : World), Below W.heap.size W W' → DataW.Trod enc Tryz.prog W' 0 (fun b => decide (b < W.heap.size)) true 22 (.slice A1 len1 cap1) d1 p1 :=
    fun W' hn => Below.trod laidOut (by kernel_rfl) (of_decide_eq_true (by kernel_rfl)) h1k hn (fun x hx => hlt x (by rw [hpp]; simp [hx]))
  obtain ⟨u0, x0, hu0, r0⟩ := open_rsl (t := t_s_uint8) (e := t_uint8) (by kernel_rfl) (by kernel_rfl) open_byte hf0
  have hu0' : u0 = .slice A0 len0 cap0 := by
    have : [Value.slice A0 len0 cap0] = [u0] := hu0
    cases this; rfl
  subst hu0'
  obtain ⟨u1, x1, hu1, r1⟩ := open_rsl (t := t_s_uint8) (e := t_uint8) (by kernel_rfl) (by kernel_rfl) open_byte hf1
  have hu1' : u1 = .slice A1 len1 cap1 := by
    have : [Value.slice A1 len1 cap1] = [u1] := hu1
    cases this; rfl
  subst hu1'
  refine ((law_LayerText (tab_of hL) (max_of hsh) (err_of hL) (R := fun v _ => v = .bool true) r0 r1 (by intros; rfl)).calls).mono fun e W' ⟨v, σ', he, hv, bel⟩ => ?_
  subst he hv
  have hW'' := hW'
  rw [hpp] at hW''
  exact ⟨_, rfl, _, _, _, [], _, [], hW'', trodAll_mk1 (shut_bool Tryz.underlying4 _), trodAll_mk2 (hargs0 W' bel) (hargs1 W' bel), rfl, bel.frame _, fun h => by cases h⟩
theorem over : Rows.fnLayerTextRow.holds Tryz.pinned (OpenSpec.ofChange Rows.fnLayerTextSpec) :=
  OpenClaim.holds_of_wide 3 Tryz.f3 rfl rfl rfl rfl rfl rfl rfl ⟨rfl, rfl, rfl, rfl, rfl⟩ rfl rfl rfl rfl rfl (by kernel_rfl) Tryz.func3 (by kernel_rfl)
    (of_decide_eq_true (by kernel_rfl)) (by unfold Func.isWrapper; first | (rw [if_pos (by decide +kernel)]; kernel_rfl) | (rw [if_neg (by decide +kernel)]; exact ⟨rfl, rfl⟩))
    (fun os started H enc _ => lifted os started H enc)
/-- THE TIED CARD. -/
theorem proved : Rows.FnLayerTextCardSaid :=
  Claim7.holds_tied_plain_at .later [] [.data, .data, .data, .data, .sentinel, .sentinel, .pinned] true (true, "a7ba1ead57763a82367c7e00e4f6906bf323b97c4fe752a3755fcb77d58aebbf") true
    over (fun _ h => by cases h) (by kernel_rfl) (fun _ h => by cases h) fnLayerText_row_tie rfl ⟨rfl, rfl⟩ (by kernel_rfl) rfl
    (fun f fn hf hfn => by
      obtain rfl : f = 3 := Option.some.inj ((show Tryz.prog.funcNamed "loop.example/changetrail/laws.FnLayerText" = some 3 by kernel_rfl).symm.trans hf) |>.symm
      obtain rfl : fn = Tryz.f3 := (Option.some.inj (Tryz.func3.symm.trans hfn)).symm
      exact ⟨by kernel_rfl, fun j t ht => by
        rw [Tryz.params3] at ht
        have hm : t ∈ [22, 22] := by simpa using Array.mem_of_getElem? ht
        have hall : ([22, 22].all fun u => !Tryz.prog.wantsStandIn u) = true := by kernel_rfl
        exact (show Tryz.prog.wantsStandIn t = false by simpa using List.all_eq_true.1 hall t hm)⟩)
    (by kernel_rfl)
end Go.Proofs.YtkbhjejalkbogaaGreatDoor.fnLayerText
namespace Go.Proofs.YtkbhjejalkbogaaGreatDoor
/-- The row, under a short name, for the claim. -/
theorem fnLayerText_holds : Rows.FnLayerTextCardSaid := fnLayerText.proved
end Go.Proofs.YtkbhjejalkbogaaGreatDoor
