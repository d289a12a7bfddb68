/- Marks of trees. -/
import Derived.Test.YtpplljcblgnnhaaE7
import Derived.Test.YtpplljcblgnnhaaE2
set_option linter.unusedVariables false
set_option linter.unusedSimpArgs false
namespace Go.Proofs.Ytpplljcblgnnhaa
open Go Go.Av

def cT : Nat → Tr → Nat
  | 0, _ => 0
  | n + 1, .mk d m t ns ks => 3 + ns.length + sumBy (cT n) ks
noncomputable def mkT : Nat → Nat → Tr → Tr
  | 0, _, x => x
  | n + 1, k, .mk d m t ns ks => .mk (decide ((k : Int) % 3 = 0)) ((k + 1 : Nat) : Int) (mtext (k + 2)) (mkTexts (k + 3) ns) (mkS (mkT n) (cT n) (k + 3 + ns.length) ks)

theorem cT_le : ∀ (n : Nat) (x : Tr), cT n x ≤ 3 + 4 * szT n x
  | 0, _ => by simp [cT]
  | n + 1, .mk d m t ns ks => by
    have h : ∀ (l : List Tr), sumBy (cT n) l ≤ 3 * l.length + 4 * sumBy (szT n) l := by
      intro l
      induction l with
      | nil => simp [sumBy]
      | cons a r ih => have := cT_le n a; simp only [sumBy, List.length_cons]; omega
    have := h ks
    simp only [cT, szT]; omega

section
variable {w0 : World} {σ : Vw}

theorem markTreeS : ∀ (n : Nat) {σ : Vw} {F : List Nat} {v : Value} {xs : List Tr} {k : Nat} {R : Value → Vw → Prop}, OSl w0 5 (OT w0 n) σ F v xs → k + sumBy (cT n) xs ≤ 1000000000000 →
    (∀ σ', KeepsBut F σ σ' → OSl w0 5 (OT w0 n) σ' F v (mkS (mkT n) (cT n) k xs) → R (.int .i64 ((k + sumBy (cT n) xs : Nat) : Int)) σ') → AC Try.prog w0 n_laws_markTreeS [v, .int .i64 (k : Nat)] σ R := by
  intro n
  induction n using Nat.strongRecOn with
  | _ n ih =>
    intro σ F v xs k R h hk hR
    refine ac_laws_markTreeS ?_
    unfold vc_laws_markTreeS
    refine mark_loop (ok_rt w0 n) (mk := mkT n) (cnt := cT n) h hk ?_ hR
    intro j x k' s ys K hj hlen hkb hx hk' hO hyj hK
    simp only [vget, List.getD_cons_zero, List.getD_cons_succ]
    obtain ⟨b, o, f, c, A, C, r, hix, hb, hr, hc, hA, hOx, hbF, hf, hput⟩ := hO.focus (ok_rt w0 n) hyj
    obtain _ | n := n
    · exact hOx.elim
    obtain ⟨d, m, t, ns, ks⟩ := x
    obtain ⟨u, w, F1, F2, rfl, h2, h3, h4, h5, rfl, hnd⟩ := hOx
    simp only [cT] at hk'
    have hb1 : b ∉ F1 := fun e => (hf b (List.mem_append_left _ e)).2 rfl
    have hb2 : b ∉ F2 := fun e => (hf b (List.mem_append_right _ e)).2 rfl
    rw [pBin_rem (by omega), pBin_eq]
    refine hix _ ?_
    refine field_store hr hc hA (by show 0 < 5; omega) rfl ?_
    simp only [List.set_cons_zero, List.set_cons_succ]
    rw [pBin_add (by omega)]
    refine hix _ ?_
    refine field_store put_at rfl hA (by show 1 < 5; omega) rfl ?_
    simp only [List.set_cons_zero, List.set_cons_succ]
    rw [put_put, pBin_add (by omega)]
    rw [show ((k' : Nat) : Int) + 1 + 1 = ((k' + 2 : Nat) : Int) by omega]
    refine markText (by omega) fun s1 k1 => ?_
    refine hix _ ?_
    refine field_store (k1 _ _ put_at) rfl hA (by show 2 < 5; omega) rfl ?_
    simp only [List.set_cons_zero, List.set_cons_succ]
    rw [pBin_add (by omega)]
    refine hix _ ?_
    refine field_load hb put_at rfl hA (y := u) rfl fun g hg => ?_
    rw [hg]
    generalize hcs : [Value.bool (decide ((k' : Int) % 3 = 0)), Value.int .i64 ((k' : Int) + 1), Value.string (mtext (k' + 2)), u, w] = cs
    generalize hs2 : s1.put b _ = s2
    have hs2b : ∃ r2, s2 b = some r2 ∧ r2.cells = A ++ (cs ++ C) := by rw [← hs2, ← hcs]; exact ⟨_, put_at, rfl⟩
    have hs2o : ∀ i, i ≠ b → ∀ ri, s i = some ri → s2 i = some ri := fun i hi ri hri => by
      rw [← hs2]
      simp only [Vw.put, hi, if_false]
      exact k1 i ri (by simp [Vw.put, hi, hri])
    have kb2 : KeepsBut F s s2 := fun i ri hri hiF => hs2o i (fun e => hiF (e ▸ hbF)) ri hri
    clear hs2
    have fr : ∀ {G : List Nat}, (∀ i, i ∈ G → i ≠ b) → (∀ i, i ∈ G → s i ≠ none) → ∀ i, i ∈ G → s2 i = s i := fun h1 h2 i hi => by
      cases hs : s i with
      | none => exact absurd hs (h2 i hi)
      | some ri => exact hs2o i (h1 i hi) ri hs
    have o4 := h4.frame (ok_str w0) (fr (fun i hi e => hb1 (e ▸ hi)) fun i hi => (h4.dom (ok_str w0) i hi).2)
    have o5 := h5.frame (ok_rt w0 n) (fr (fun i hi e => hb2 (e ▸ hi)) fun i hi => (h5.dom (ok_rt w0 n) i hi).2)
    rw [show ((k' + 2 : Nat) : Int) + 1 = ((k' + 3 : Nat) : Int) by omega]
    refine markStringS o4 (by omega) fun s3 k3 o4' => ?_
    obtain ⟨r2, hr2, hc2⟩ := hs2b
    have hr3 := k3 b r2 hr2 hb1
    have hd12 : ∀ i, i ∈ F2 → i ∉ F1 := fun i hi hi' => (List.nodup_append.1 hnd).2.2 i hi' i hi rfl
    have o5' := o5.frame (ok_rt w0 n) (k3.at (fun i hi => (o5.dom (ok_rt w0 n) i hi).2) hd12)
    refine hix _ ?_
    refine field_load hb hr3 hc2 hA (y := w) (by rw [← hcs]; rfl) fun g2 hg2 => ?_
    rw [hg2]
    refine ih n (by omega) o5' (by omega) fun s4 k4 o5'' => ?_
    have hr4 := k4 b r2 hr3 hb2
    have o4'' := o4'.frame (ok_str w0) (k4.at (fun i hi => (o4'.dom (ok_str w0) i hi).2) fun i hi hi' => hd12 i hi' hi)
    rw [pBin_add (by have := h.1; omega)]
    have kf1 : ∀ i, i ∈ F1 → i ∈ F := fun i hi => (hf i (List.mem_append_left _ hi)).1
    have kf2 : ∀ i, i ∈ F2 → i ∈ F := fun i hi => (hf i (List.mem_append_right _ hi)).1
    have := hK s4 (kb2.trans ((k3.mono kf1).trans (k4.mono kf2))) (hput s4 cs (mkT (n + 1) k' (.mk d m t ns ks)) r2 hr4 hc2 ?_ ?_)
    · simp only [cT] at this
      rw [show (k' + (3 + ns.length + sumBy (cT n) ks) : Nat) = k' + 3 + ns.length + sumBy (cT n) ks by omega] at this
      exact this
    · refine ⟨u, w, F1, F2, by rw [← hcs]; simp, ⟨by omega, by omega⟩, mtext_size (by omega), o4'', o5'', rfl, hnd⟩
    · intro i hi hne hif
      have d := hO.dom (ok_rt w0 (n + 1)) i hi
      cases hs : s i with
      | none => exact absurd hs d.2
      | some ri => exact k4 i ri (k3 i ri (hs2o i hne ri hs) fun e => hif (List.mem_append_left _ e)) fun e => hif (List.mem_append_right _ e)

theorem markTree {n : Nat} {F : List Nat} {es : List Value} {x : Tr} {k : Nat} {R : Value → Vw → Prop} (h : OT w0 n σ F es x) (hk : k + cT n x ≤ 1000000000000) (hR : ∀ σ', KeepsBut F σ σ' → (k : Int) ≤ ((k + cT n x : Nat) : Int) → R (.int .i64 ((k + cT n x - 3 : Nat) : Int)) σ') : AC Try.prog w0 n_laws_markTree [.agg ⟨es⟩, .int .i64 (k : Nat)] σ R := by
  obtain _ | n := n
  · exact h.elim
  obtain ⟨d, m, t, ns, ks⟩ := x
  obtain ⟨u, w, F1, F2, rfl, h2, h3, h4, h5, rfl, hnd⟩ := h
  refine ac_laws_markTree ?_
  unfold vc_laws_markTree
  rw [pVal_5 rfl rfl rfl (OSl.one' h4) (OSl.one' h5)]
  simp only [cellOf_agg, List.getD_cons_zero, List.getD_cons_succ]
  simp only [cT] at hk hR
  refine markStringS h4 (by omega) fun s3 k3 o4' => ?_
  have hd12 : ∀ i, i ∈ F2 → i ∉ F1 := fun i hi hi' => (List.nodup_append.1 hnd).2.2 i hi' i hi rfl
  have o5' := h5.frame (ok_rt w0 n) (k3.at (fun i hi => (h5.dom (ok_rt w0 n) i hi).2) hd12)
  refine markTreeS n o5' (by omega) fun s4 k4 o5'' => ?_
  have := hR s4 ((k3.mono fun i hi => List.mem_append_left _ hi).trans (k4.mono fun i hi => List.mem_append_right _ hi)) (by omega)
  rw [show (k + (3 + ns.length + sumBy (cT n) ks) - 3 : Nat) = k + ns.length + sumBy (cT n) ks by omega] at this
  exact this
end
end Go.Proofs.Ytpplljcblgnnhaa
