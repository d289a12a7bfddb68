/- The abstract layer, part 5: append, make, stores: what they do to the view. -/
import Derived.Test.YtkndffhcncmbjaaA4
set_option linter.unusedVariables false
set_option linter.unusedSimpArgs false
namespace Go.Av
open Go Go.RowKit

section
variable {P : Program} {w0 : World} {σ : Vw} {w : World}

theorem own_row {e sz n : Nat} {v : Value} {cells : List Value} (h : Own σ e sz v n cells) (hs : Sat w0 σ w) : w.ownsRow w0.heap.size e sz v n cells := by
  obtain ⟨hl, h⟩ := h
  refine ⟨hl, ?_⟩
  rcases h with h | ⟨b, c, rfl, hb, hn, hm⟩
  · exact .inl h
  · obtain ⟨h1, cur, h2, h3, h4, _⟩ := hs.row b _ hb
    refine .inr ⟨b, c, cur, rfl, h1, h2, hn, by simp only [maxLen]; omega, h4, ?_⟩
    have := List.prefix_iff_eq_take.1 h3
    simp only at this
    rw [hl] at this
    exact this.symm

theorem app_new (hs : Sat w0 σ w) {e sz k c : Nat} {xs : List Value} (z : Array Value) (hx : xs.length = k * sz) (hz : z.size = sz) (hc : k ≤ c) (hm : c ≤ 9223372036854775807) (v : Value) :
    Grew w0 σ (σ.put w.heap.size ⟨e, xs, c * sz, (0, 0)⟩) e sz v (.slice (some ⟨w.heap.size, 0, none⟩) k c) k xs ∧
    Aft w0 σ w (σ.put w.heap.size ⟨e, xs, c * sz, (0, 0)⟩) (w.drew.alloc (.cells (xs.toArray ++ Builtin.zeroCells z (c - k)) e)) := by
  refine ⟨.inr ⟨w.heap.size, c, rfl, hc, hm, rfl, (fresh hs).1, .inl (fresh hs).2⟩, Aft.drew ?_⟩
  refine Aft.row (w := w.drew) hs.drew _ ⟨e, xs, c * sz, (0, 0)⟩ ?_ ?_ rfl
  · simp
  · simp only [Array.size_append, List.size_toArray, size_zeroCells, hz, hx, ← Nat.add_mul]
    congr 1
    omega

theorem run_app (hs : Sat w0 σ w) {T e ty sz : Nat} {i : TypeInfo} {z : Value} (hu : P.underlying T = some (.slice e)) (hi : P.info? e = some i) (hz : i.zero = some z) (hsz : i.size = sz) (hzs : z.cells.size = sz) (hpos : 0 < sz)
    {v : Value} {n m c : Nat} {A : Option Addr} {cells new : List Value} (own : Own σ e sz v n cells) (hl : new.length = m * sz) (hsrc : ∀ j u, new[j]? = some u → ∃ a, A = some a ∧ w.cell? (a.add j) = some u)
    (h1 : ∀ u ∈ new, u.oneCell' = true) (h63 : n + m ≤ 9223372036854775807) (hb : (n + m) * i.bytes ≤ 140737488355328) :
    ∃ v' σ' w', (Builtin.append_ #[T, T] ty #[v, .slice A m c]).run P w = .ok v' w' ∧ Grew w0 σ σ' e sz v v' (n + m) (cells ++ new) ∧ Aft w0 σ w σ' w' := by
  subst hsz
  have hlen : (cells ++ new).length = (n + m) * i.size := by rw [List.length_append, own.1, hl, Nat.add_mul]
  have hrow := own_row own hs
  rcases Nat.eq_zero_or_pos m with hm | hm
  · subst hm
    have hnew : new = [] := List.eq_nil_of_length_eq_zero (by simpa using hl)
    subst hnew
    rcases own.2 with ⟨rfl, rfl⟩ | ⟨b, c0, rfl, hbr, hn, hcm⟩
    · have hx : cells = [] := List.eq_nil_of_length_eq_zero (by simpa using own.1)
      subst hx
      refine ⟨.slice none 0 0, σ, w, ?_, .inl ⟨rfl, rfl, rfl, rfl, rfl⟩, Aft.refl hs⟩
      cases A <;> simp [Builtin.append_, run_underlying hu, sizeOf, typeInfo, hi, Builtin.lenOf, Builtin.firstCells, loadCells, loadCellsFrom]
    · refine ⟨.slice (some ⟨b, 0, none⟩) n c0, σ, w, ?_, .inr ⟨b, c0, rfl, hn, hcm, ?_, (hs.row b _ hbr).1, .inr ⟨n, c0, rfl⟩⟩, Aft.refl hs⟩
      · cases A <;> simp [Builtin.append_, run_underlying hu, sizeOf, typeInfo, hi, Builtin.lenOf, Builtin.firstCells, loadCells, loadCellsFrom, hn, storeCells]
      · funext j
        by_cases e' : j = b
        · subst e'; rw [put_eq, hbr, List.append_nil]
        · rw [put_ne e']
  · obtain ⟨u0, hu0⟩ : ∃ u, new[0]? = some u := by
      have : 0 < new.length := by rw [hl]; exact Nat.mul_pos hm hpos
      exact ⟨_, List.getElem?_eq_getElem this⟩
    obtain ⟨ad, rfl, _⟩ := hsrc 0 u0 hu0
    have hnews : ∀ j u, new[j]? = some u → w.cell? (ad.add j) = some u := fun j u hj => by
      obtain ⟨a', ha, h⟩ := hsrc j u hj
      cases ha
      exact h
    have hfit : ∀ old, old < n + m → Builtin.nextslicecap (n + m) old * i.bytes ≤ 281474976710656 := fun old ho => growslice_fits (by omega) hb
    rcases own.2 with ⟨rfl, rfl⟩ | ⟨b, c0, rfl, hbr, hn, hcm⟩
    · have hx : cells = [] := List.eq_nil_of_length_eq_zero (by simpa using own.1)
      subst hx
      have hr := run_append_nil (P := P) w T ty e i z hu hi hz ad m c new hl hnews hm (by omega) (by have := hb; simp only [Nat.zero_add] at this; omega)
      have hg := app_new hs (e := e) (k := m) (c := grownCap w m 0 e) z.cells hl hzs (grownCap_ge w m 0 e) (by have := grownCap_le_maxLen w m 0 e (by simp only [maxLen]; omega); simp only [maxLen] at this; omega) (.slice none 0 0)
      simp only [Nat.zero_add, List.nil_append]
      exact ⟨_, _, _, hr, hg.1, hg.2⟩
    · obtain ⟨hw0, cur, hcur, hpre, hcap, _⟩ := hs.row b _ hbr
      simp only at hcur hpre hcap
      have htake : cur.toList.take (n * i.size) = cells := by have := List.prefix_iff_eq_take.1 hpre; rw [own.1] at this; exact this.symm
      by_cases hroom : n + m ≤ c0
      · have hfit2 : n * i.size + new.length ≤ cur.size := by rw [hl, hcap, ← Nat.add_mul]; exact Nat.mul_le_mul_right _ hroom
        have hr := run_append_room (P := P) w T ty e i hu hi b n c0 cur hcur ad m c new hl hnews h1 hroom hfit2
        refine ⟨_, σ.put b ⟨e, cells ++ new, c0 * i.size, (0, 0)⟩, _, hr, .inr ⟨b, c0, rfl, hroom, hcm, rfl, hw0, .inr ⟨n, c0, rfl⟩⟩, ?_⟩
        rw [htake]
        have hhp := setRow_heap w b cur (cells ++ new ++ cur.toList.drop (n * i.size + new.length)).toArray e (0, 0) hcur
        have hot : ∀ k, k ≠ b → (w.setRow b (cells ++ new ++ cur.toList.drop (n * i.size + new.length)).toArray).heap[k]? = w.heap[k]? := fun k hk => setRow_other w b k _ hk
        refine ⟨⟨⟨hs.bel.os, hs.bel.tape, hs.bel.output, by simpa using hs.bel.size, fun k hk => ?_⟩, fun k r hk => ?_⟩, by simp, fun k hk hn' => ?_, fun k r hk => ?_⟩
        · rw [hot k (by omega)]; exact hs.bel.block k hk
        · by_cases ek : k = b
          · subst ek
            rw [put_eq] at hk
            cases hk
            refine ⟨hw0, _, hhp, ?_, ?_, .inr (Nat.le_refl _)⟩
            · simp
            · have hcl : cur.toList.length = cur.size := by simp
              simp only [List.size_toArray, List.length_append, List.length_drop, own.1, hcl]
              omega
          · rw [put_ne ek] at hk
            obtain ⟨p1, cur', p2, p3⟩ := hs.row k r hk
            exact ⟨p1, cur', (hot k ek).trans p2, p3⟩
        · rw [hot k (fun ek => by rw [ek, hbr] at hn'; cases hn')]
        · by_cases ek : k = b
          · subst ek; exact .inl (by rw [hbr]; simp)
          · rw [put_ne ek] at hk; exact .inl (by rw [hk]; simp)
      · have holds : ∀ j u, cells[j]? = some u → w.cell? ((⟨b, 0, none⟩ : Addr).add j) = some u := hrow.cells (g := b) rfl
        have hr := run_append_grow (P := P) w T ty e i z hu hi hz ⟨b, 0, none⟩ n c0 cells own.1 holds ad m c new hl hnews (by omega) (by omega) (hfit c0 (by omega))
        have hg := app_new hs (e := e) (k := n + m) (c := grownCap w (n + m) c0 e) z.cells hlen hzs (grownCap_ge w (n + m) c0 e) (by have := grownCap_le_maxLen w (n + m) c0 e (by simp only [maxLen]; omega); simp only [maxLen] at this; omega) (.slice (some ⟨b, 0, none⟩) n c0)
        rw [show (cells ++ new).toArray = cells.toArray ++ new.toArray by simp] at hg
        exact ⟨_, _, _, hr, hg.1, hg.2⟩
end
end Go.Av
