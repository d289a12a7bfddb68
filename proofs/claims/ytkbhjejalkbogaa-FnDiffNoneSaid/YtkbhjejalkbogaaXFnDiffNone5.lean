/- The law FnDiffNone holds: it returns true, and the input reads as it did. No condition. This is part 5 of 5 of its proof. -/
import Derived.Test.YtkbhjejalkbogaaXFnDiffNone4
import Derived.Below
import Derived.Test.YtkbhjejalkbogaaRows
import Derived.WalkKit
import Derived.ProofKit
import Derived.OpenShut
import Derived.ShutString
import Derived.ChangeOld
import Derived.Carry
import Derived.SizedLaws

/- Calls that are drawn; calls done one behind another. -/
set_option linter.unusedVariables false
set_option linter.unusedSimpArgs false
namespace Go.Proofs.Ytkbhjejalkbogaa
open Go Go.Av Go.RowKit

section
variable {w0 : World} {σ : Vw}

theorem OutC.from {b p q : Nat} {s : Vw} {R : Value → Vw → Prop} (hR : OutC w0 σ b p R) (k : Keeps (σ.del b) (s.del b)) (hq : q ≤ p) : OutC w0 s b q R := fun cs c s' h1 h2 h3 h4 => hR cs c s' (h1.more hq) (k.trans h2) h3 h4
theorem nil_strs {rd : Addr → Option Value} : RSl 1 RS rd (.slice none 0 0) [] := ⟨none, 0, rfl, by simp, fun j x h => by simp at h⟩

set_option maxRecDepth 40000 in
set_option maxHeartbeats 16000000 in
theorem spec_l4Call {b p n : Nat} {es : List Value} {x : Tr} (h : RD w0 σ b p) (hp : p ≤ 1000000) (ht : RT n (Av.get w0 (σ.del b)) es x) (hsz : szT n x ≤ 1000000000) {R : Value → Vw → Prop} (hR : OutC w0 σ b (p + 60) R) : AC Try.prog w0 n_spec_l4Call [ptr b, .agg ⟨es⟩] σ R := by
  have ht0 := ht
  obtain ⟨c0, c1, c2, c3, c4, rfl, hp5⟩ := ht.shape
  refine ac_spec_l4Call ?_
  unfold vc_spec_l4Call
  rw [hp5]
  simp only [cellOf_agg, List.getD_cons_zero, List.getD_cons_succ]
  refine spec_pick (n := 6) h (by omega) (by omega) fun j s1 hj hrd1 hd1 _ => ?_
  have k1 : Keeps (σ.del b) (s1.del b) := by rw [hd1]; exact Keeps.refl _
  rw [pBin_add (by omega), show (1 : Int) + (j : Nat) = ((1 + j : Nat) : Int) by omega]
  refine spec_l4Path hrd1 (by omega) (mono_rt n _ _ _ _ k1.le ht0) hsz fun v3 ps s4 hrd4 k4 hv hpl => ?_
  have K4 := k1.trans k4
  have ht4 := mono_rt n _ _ _ _ K4.le ht0
  rw [pVal1 rfl, pVal1 hv.one, pVal_5 rfl hv.one rfl rfl rfl]
  generalize hkk : ((1 + j : Nat) : Int) = kk
  have hk : i64r kk := by omega
  have hn4 : RSl 1 RS (Av.get w0 (s4.del b)) (.slice none 0 0) [] := nil_strs
  have e0 : (⟨#[]⟩ : ByteArray).size ≤ 1000 := by decide
  have R4 := OutC.from hR K4 (q := p + 1 + 20 + 3) (by omega)
  refine pBin_eq.2 (pIf_d.2 ⟨fun hyes => ?_, fun hno => ?_⟩)
  · skip
    refine pIf_d.2 ⟨fun _ => ?_, fun hc => absurd hyes hc⟩
    refine spec_pick (n := 8) hrd4 (by omega) (by omega) fun j2 s5 hj2 hrd5 hd5 _ => ?_
    have k5 : Keeps (s4.del b) (s5.del b) := by rw [hd5]; exact Keeps.refl _
    rw [pVal1 rfl]
    exact call_tail hrd5 (by omega) hk (hv.mono k5.le fun _ _ h => h) (by omega) nil_strs (by omega) e0 (OutC.from hR (K4.trans k5) (by omega))
  · skip
    refine pBin_eq.2 (pIf_d.2 ⟨fun hyes => ?_, fun hno => ?_⟩)
    · skip
      refine spec_pick (n := 8) hrd4 (by omega) (by omega) fun j2 s5 hj2 hrd5 hd5 _ => ?_
      have k5 : Keeps (s4.del b) (s5.del b) := by rw [hd5]; exact Keeps.refl _
      rw [pVal1 rfl]
      exact call_tail hrd5 (by omega) hk (hv.mono k5.le fun _ _ h => h) (by omega) nil_strs (by omega) e0 (OutC.from hR (K4.trans k5) (by omega))
    · skip
      refine pBin_eq.2 (pIf_d.2 ⟨fun hyes => ?_, fun hno => ?_⟩)
      · skip
        refine pIf_d.2 ⟨fun _ => ?_, fun hc => absurd hyes hc⟩
        refine spec_pick (n := 4) hrd4 (by omega) (by omega) fun j2 s5 hj2 hrd5 hd5 _ => ?_
        have k5 : Keeps (s4.del b) (s5.del b) := by rw [hd5]; exact Keeps.refl _
        refine spec_pick (n := 4) hrd5 (by omega) (by omega) fun j3 s6 hj3 hrd6 hd6 _ => ?_
        have k6 : Keeps (s5.del b) (s6.del b) := by rw [hd6]; exact Keeps.refl _
        have hmul : j2 * j3 ≤ 3 * 3 := Nat.mul_le_mul (by omega) (by omega)
        have hcast : ((j2 : Nat) : Int) * ((j3 : Nat) : Int) = ((j2 * j3 : Nat) : Int) := (Int.natCast_mul _ _).symm
        rw [pBin_mul (by rw [hcast]; omega), hcast]
        generalize j2 * j3 = jj at hmul
        rw [pVal1 rfl, pBin_eq, pIf_d]
        refine ⟨fun _ => ?_, fun _ => call_tail hrd6 (by omega) hk (hv.mono (k5.trans k6).le fun _ _ h => h) (by omega) nil_strs (by omega) e0 (OutC.from hR (K4.trans (k5.trans k6)) (by omega))⟩
        refine spec_l4Data hrd6 (by omega) fun dt s7 hdt hrd7 k7 => ?_
        rw [pVal1 rfl]
        exact call_tail hrd7 (by omega) hk (hv.mono ((k5.trans k6).trans k7).le fun _ _ h => h) (by omega) nil_strs (by omega) hdt (OutC.from hR (K4.trans ((k5.trans k6).trans k7)) (by omega))
      · skip
        refine pBin_eq.2 (pIf_d.2 ⟨fun hyes => ?_, fun hno => ?_⟩)
        · skip
          refine spec_pick (n := 4) hrd4 (by omega) (by omega) fun j2 s5 hj2 hrd5 hd5 _ => ?_
          have k5 : Keeps (s4.del b) (s5.del b) := by rw [hd5]; exact Keeps.refl _
          refine spec_pick (n := 4) hrd5 (by omega) (by omega) fun j3 s6 hj3 hrd6 hd6 _ => ?_
          have k6 : Keeps (s5.del b) (s6.del b) := by rw [hd6]; exact Keeps.refl _
          have hmul : j2 * j3 ≤ 3 * 3 := Nat.mul_le_mul (by omega) (by omega)
          have hcast : ((j2 : Nat) : Int) * ((j3 : Nat) : Int) = ((j2 * j3 : Nat) : Int) := (Int.natCast_mul _ _).symm
          rw [pBin_mul (by rw [hcast]; omega), hcast]
          generalize j2 * j3 = jj at hmul
          rw [pVal1 rfl, pBin_eq, pIf_d]
          refine ⟨fun _ => ?_, fun _ => call_tail hrd6 (by omega) hk (hv.mono (k5.trans k6).le fun _ _ h => h) (by omega) nil_strs (by omega) e0 (OutC.from hR (K4.trans (k5.trans k6)) (by omega))⟩
          refine spec_l4Data hrd6 (by omega) fun dt s7 hdt hrd7 k7 => ?_
          rw [pVal1 rfl]
          exact call_tail hrd7 (by omega) hk (hv.mono ((k5.trans k6).trans k7).le fun _ _ h => h) (by omega) nil_strs (by omega) hdt (OutC.from hR (K4.trans ((k5.trans k6).trans k7)) (by omega))
        · skip
          refine pBin_eq.2 (pIf_d.2 ⟨fun hyes => ?_, fun hno => ?_⟩)
          · skip
            refine spec_l4Path hrd4 (by omega) ht4 hsz fun v5 qs s5 hrd5 k5 hv5 hql => ?_
            have hv3 := hv.mono k5.le fun _ _ h => h
            rw [pVal1 hv5.one]
            refine spec_pick (n := 2) hrd5 (by omega) (by omega) fun j2 s6 hj2 hrd6 hd6 _ => ?_
            have k6 : Keeps (s5.del b) (s6.del b) := by rw [hd6]; exact Keeps.refl _
            rw [pBin_eq, pIf_d]
            refine ⟨fun _ => ?_, fun _ => call_tail hrd6 (by omega) hk (hv3.mono k6.le fun _ _ h => h) (by omega) (hv5.mono k6.le fun _ _ h => h) (by omega) e0 (OutC.from hR (K4.trans (k5.trans k6)) (by omega))⟩
            intro n1 h1 h2
            rw [hv5.len, pBin_sub (by omega), show ((qs.length : Nat) : Int) - 1 = ((qs.length - 1 : Nat) : Int) by omega]
            refine RSl.take (hv5.mono k6.le fun _ _ h => h) (by omega) fun v7 hv7 => ?_
            refine path_more' hrd6 hv7 (by rw [List.length_take]; omega) h1 h2 fun v8 F s8 hrd8 k8 ho8 hF8 => ?_
            refine spec_l4Name hrd8 (by omega) fun nm s9 hnm hrd9 k9 => ?_
            have ho9 : OAcc w0 t_string 1 OStr s9 F v8 (qs.take (qs.length - 1)) := OAcc.frame (ok_str w0) ho8 fun i hi => by
              cases hs : s8 i with
              | none => exact absurd hs (ho8.dom (ok_str w0) i hi).2
              | some r => exact keeps_out k9 (hF8 i hi).2 hs
            refine path_add (σ1 := s6) hrd9 (k8.trans k9) ho9 hF8 (by rw [List.length_take]; omega) (by omega) fun v9 s10 hrd10 k10 hv10 => ?_
            exact call_tail hrd10 (by omega) hk ((hv3.mono k6.le fun _ _ h => h).mono k10.le fun _ _ h => h) (by omega) hv10 (by omega) e0 (OutC.from hR (K4.trans ((k5.trans k6).trans k10)) (by omega))
          · skip
            exact call_tail hrd4 (by omega) hk hv (by omega) hn4 (by omega) e0 R4
end
end Go.Proofs.Ytkbhjejalkbogaa

/- Calls done one behind another; trees that are drawn. -/
set_option linter.unusedVariables false
set_option linter.unusedSimpArgs false
set_option maxRecDepth 20000
namespace Go.Proofs.Ytkbhjejalkbogaa
open Go Go.Av Go.RowKit

section
variable {w0 : World} {σ : Vw}

theorem keeps_del {s : Vw} {b : Nat} (k : Keeps σ s) : Keeps (σ.del b) (s.del b) := fun i r hi => by
  obtain ⟨e1, e2⟩ := del_some hi
  rw [del_ne e1]; exact k i r e2
theorem RD.kept {b p : Nat} {s : Vw} (h : RD w0 σ b p) (k : Keeps σ s) : RD w0 s b p := by
  refine h.keep ?_
  cases hb : σ b with
  | none => exact absurd hb h.at
  | some r => exact k b r hb
/-- What a drawn tree is. -/
abbrev OutTR (w0 : World) (σ : Vw) (b p N S : Nat) (R : Value → Vw → Prop) : Prop := ∀ es y s, RD w0 s b p → Keeps (σ.del b) (s.del b) → RT N (Av.get w0 (s.del b)) es y → szT N y ≤ S → R (.agg ⟨es⟩) s
theorem OutTR.from {b p q N S : Nat} {s : Vw} {R : Value → Vw → Prop} (hR : OutTR w0 σ b p N S R) (k : Keeps (σ.del b) (s.del b)) (hq : q ≤ p) : OutTR w0 s b q N S R := fun es y s' h1 h2 h3 h4 => hR es y s' (h1.more hq) (k.trans h2) h3 h4

theorem TreeDo_rd {b p n : Nat} {es cs : List Value} {x : Tr} {c : Cl} (h : RD w0 σ b p) (ht : RT n (Av.get w0 (σ.del b)) es x) (hs : szT n x ≤ 1000000000) (hc : RCl (Av.get w0 (σ.del b)) cs c) (hdl : c.2.2.2.2.size ≤ 1000000) {R : Value → Vw → Prop}
    (hR : ∀ ey y s k, Keeps (σ.del b) (s.del b) → RD w0 s b p → RT 11 (Av.get w0 (s.del b)) ey y → szT 11 y ≤ 40000000 → (0 ≤ k ∧ k ≤ 7) → R (.tuple ⟨[.agg ⟨ey⟩, .int .i64 k]⟩) s) : AC Try.prog w0 n_spec_TreeDo [.agg ⟨es⟩, .agg ⟨cs⟩] σ R :=
  h.hide (R := fun v s => Keeps (σ.del b) s ∧ ∃ ey y k, v = .tuple ⟨[.agg ⟨ey⟩, .int .i64 k]⟩ ∧ RT 11 (Av.get w0 s) ey y ∧ szT 11 y ≤ 40000000 ∧ (0 ≤ k ∧ k ≤ 7))
    (spec_TreeDo ht hs hc hdl fun ey y s k k1 r1 r2 r3 => ⟨k1, ey, y, k, rfl, r1, r2, r3⟩)
    (fun v s k hrd ⟨_, ey, y, c, e, r1, r2, r3⟩ => by subst e; exact hR ey y s c k hrd r1 r2 r3) fun v s h => h.1

theorem spec_l4Calls {b p N S k : Nat} {es : List Value} {x : Tr} (h : RD w0 σ b p) (hp : p + 60 * k ≤ 900000) (hk : k ≤ 100) (hN : 11 ≤ N) (hS : 40000000 ≤ S ∧ S ≤ 900000000) (ht : RT N (Av.get w0 (σ.del b)) es x) (hs : szT N x ≤ S) {R : Value → Vw → Prop} (hR : OutTR w0 σ b (p + 60 * k) N S R) : AC Try.prog w0 n_spec_l4Calls [ptr b, .agg ⟨es⟩, .int .i64 (k : Nat)] σ R := by
  have ht0 := ht
  obtain ⟨c0, c1, c2, c3, c4, rfl, hp5⟩ := ht.shape
  refine ac_spec_l4Calls ?_
  unfold vc_spec_l4Calls
  rw [hp5]
  simp only [cellOf_agg, List.getD_cons_zero, List.getD_cons_succ]
  refine loop_rule (m := k) (fun m l s => ∃ (i q : Nat) (d0 d1 d2 d3 d4 : Value) (y : Tr), m = i ∧ i ≤ k ∧ q + 60 * i ≤ p + 60 * k ∧ RD w0 s b q ∧ Keeps (σ.del b) (s.del b) ∧ RT N (Av.get w0 (s.del b)) [d0, d1, d2, d3, d4] y ∧ szT N y ≤ S ∧
      l = [ptr b, .int .i64 (i : Nat), d0, d1, d2, d3, d4, .bool false, .int .i64 0, .string ⟨#[]⟩, .slice none 0 0, .slice none 0 0]) ?_
    ⟨k, p, c0, c1, c2, c3, c4, x, rfl, Nat.le_refl _, Nat.le_refl _, h, Keeps.refl _, ht0, hs, rfl⟩
  rintro m l s L ⟨i, q, d0, d1, d2, d3, d4, y, rfl, hi, hq, hrd, ks, hy, hys, rfl⟩ hL
  simp only [vget, List.getD_cons_zero, List.getD_cons_succ]
  rw [pBin_gt, pIf_d]
  have hy0 := hy
  have e5 := hy.shape
  have hp6 : ∀ A : Prop, pVal true 5 (.agg ⟨[d0, d1, d2, d3, d4]⟩) A ↔ A := by
    obtain ⟨_, _, _, _, _, e, hh⟩ := hy.shape
    cases e; exact hh
  refine ⟨fun hpos => ?_, fun _ => ?_⟩
  · refine spec_l4Call hrd (by omega) hy0 (by omega) fun cs c s1 hrd1 k1 hc hcs => ?_
    refine TreeDo_rd hrd1 (mono_rt _ _ _ _ _ k1.le hy0) (by omega) hc (by omega) fun ey z s2 cd k2 hrd2 hz hzs hcd => ?_
    have hz0 := hz
    obtain ⟨f0, f1, f2, f3, f4, rfl, hp7⟩ := hz.shape
    rw [pExtract_s rfl, pExtract_s rfl, hp7, pBin_eq, pIf_d]
    simp only [cellOf_agg, List.getD_cons_zero, List.getD_cons_succ]
    have hzN : RT N (Av.get w0 (s2.del b)) [f0, f1, f2, f3, f4] z := RT_le hN hz0
    have hzsN : szT N z ≤ S := by rw [sz_more hz0.isT hN]; omega
    refine ⟨fun _ => ?_, fun _ => ?_⟩
    · rw [hp7, pBin_sub (by omega)]
      exact hL _ _ (m - 1) (by omega) ⟨m - 1, q + 60, f0, f1, f2, f3, f4, z, rfl, by omega, by omega, hrd2, (ks.trans k1).trans k2, hzN, hzsN, by rw [show ((m : Nat) : Int) - 1 = ((m - 1 : Nat) : Int) by omega]⟩
    · rw [pBin_sub (by omega)]
      exact hL _ _ (m - 1) (by omega) ⟨m - 1, q + 60, d0, d1, d2, d3, d4, y, rfl, by omega, by omega, hrd2, (ks.trans k1).trans k2, mono_rt _ _ _ _ _ (k1.trans k2).le hy0, hys, by rw [show ((m : Nat) : Int) - 1 = ((m - 1 : Nat) : Int) by omega]⟩
  · show pVal true 5 (.agg ⟨[d0, d1, d2, d3, d4]⟩) _
    rw [hp6]
    exact hR _ y s (hrd.more (by omega)) ks hy0 hys

theorem i64_zero : i64r 0 := by omega
theorem i64_two : i64r 2 := by omega
theorem sz_dir0 {n : Nat} {m : Int} : szT n (.mk true m ⟨#[]⟩ [] []) = 0 := by
  cases n with
  | zero => rfl
  | succ n => rfl
theorem RT_dir0 (n : Nat) (rd : Addr → Option Value) {m : Int} (hm : -9223372036854775808 ≤ m ∧ m ≤ 9223372036854775807) : RT (n + 1) rd [.bool true, .int .i64 m, .string ⟨#[]⟩, .slice none 0 0, .slice none 0 0] (.mk true m ⟨#[]⟩ [] []) :=
  ⟨_, _, rfl, hm, by show 0 ≤ _; omega, ⟨none, 0, rfl, by simp, fun j x h => by simp at h⟩, ⟨none, 0, rfl, by simp, fun j x h => by simp at h⟩⟩

set_option maxHeartbeats 4000000 in
theorem spec_l4Tree {b p : Nat} (h : RD w0 σ b p) (hp : p ≤ 800000) {R : Value → Vw → Prop} (hR : OutTR w0 σ b (p + 700) 11 40000000 R) : AC Try.prog w0 n_spec_l4Tree [ptr b] σ R := by
  refine ac_spec_l4Tree ?_
  unfold vc_spec_l4Tree
  refine spec_pick (n := 8) h (by omega) (by omega) fun j s1 hj hrd1 hd1 _ => ?_
  have k1 : Keeps (σ.del b) (s1.del b) := by rw [hd1]; exact Keeps.refl _
  refine spec_pick (n := 2) hrd1 (by omega) (by omega) fun j2 s2 hj2 hrd2 hd2 _ => ?_
  have k2 : Keeps (s1.del b) (s2.del b) := by rw [hd2]; exact Keeps.refl _
  have hmul : j * j2 ≤ 7 * 1 := Nat.mul_le_mul (by omega) (by omega)
  have hcast : ((j : Nat) : Int) * ((j2 : Nat) : Int) = ((j * j2 : Nat) : Int) := (Int.natCast_mul _ _).symm
  rw [pBin_mul (by rw [hcast]; omega), hcast, pVal1 rfl, pVal1 rfl, pVal_5 rfl rfl rfl rfl rfl]
  generalize j * j2 = jj at hmul
  refine spec_pick (n := 12) hrd2 (by omega) (by omega) fun k s3 hk hrd3 hd3 _ => ?_
  have k3 : Keeps (s2.del b) (s3.del b) := by rw [hd3]; exact Keeps.refl _
  have K3 := (k1.trans k2).trans k3
  refine loop_rule (m := k) (fun m l s => ∃ (i q : Nat) (d0 d1 d2 d3 d4 : Value) (y : Tr), m = i ∧ i ≤ k ∧ q + 25 * i ≤ p + 3 + 25 * k ∧ RD w0 s b q ∧ Keeps (σ.del b) (s.del b) ∧ RT 11 (Av.get w0 (s.del b)) [d0, d1, d2, d3, d4] y ∧ szT 11 y ≤ 40000000 ∧
      l = [ptr b, .int .i64 (i : Nat), .bool false, .int .i64 0, .string ⟨#[]⟩, .slice none 0 0, .slice none 0 0, d0, d1, d2, d3, d4]) ?_
    ⟨k, p + 1 + 1 + 1, _, _, _, _, _, _, rfl, Nat.le_refl _, by omega, hrd3, K3, RT_dir0 10 _ (m := ((jj : Nat) : Int)) (by omega), by rw [sz_dir0]; omega, rfl⟩
  rintro m l s L ⟨i, q, d0, d1, d2, d3, d4, y, rfl, hi, hq, hrd, ks, hy, hys, rfl⟩ hL
  simp only [vget, List.getD_cons_zero, List.getD_cons_succ]
  have hy0 := hy
  have hp6 : ∀ A : Prop, pVal true 5 (.agg ⟨[d0, d1, d2, d3, d4]⟩) A ↔ A := by
    obtain ⟨_, _, _, _, _, e, hh⟩ := hy.shape
    cases e; exact hh
  rw [pBin_gt, pIf_d]
  refine ⟨fun hpos => ?_, fun _ => ?_⟩
  · refine spec_pick (n := 2) hrd (by omega) (by omega) fun j3 s4 hj3 hrd4 hd4 _ => ?_
    have k4 : Keeps (s.del b) (s4.del b) := by rw [hd4]; exact Keeps.refl _
    rw [pBin_add (by omega), show (1 : Int) + (j3 : Nat) = ((1 + j3 : Nat) : Int) by omega]
    refine spec_l4Path hrd4 (by omega) (mono_rt _ _ _ _ _ k4.le hy0) (by omega) fun pv ps s5 hrd5 k5 hv hpl => ?_
    rw [pVal1 rfl, pVal1 hv.one, pVal_5 rfl hv.one rfl rfl rfl]
    have K5 := (ks.trans k4).trans k5
    -- a call that is done
    have DO : ∀ (s6 : Vw) (q6 : Nat) (d : ByteArray), RD w0 s6 b q6 → q6 + 25 * (m - 1) ≤ p + 3 + 25 * k → Keeps (s5.del b) (s6.del b) → d.size ≤ 1000 →
        AC Try.prog w0 n_spec_TreeDo ([.agg (⟨[d0, d1, d2, d3, d4]⟩), .agg (⟨[.int .i64 ((1 + j3 : Nat) : Int), pv, .slice none 0 0, .int .i64 0, .string d]⟩)]) s6 (fun v19 s20 => pExtract v19 0 (fun v21 => pExtract v19 1 (fun v22 => pVal true 5 v21 (pBin Try.prog 3 .eql v22 (.int .i64 0) (fun v23 => pIf v23 (pVal true 5 (.agg (⟨[cellOf v21 0, cellOf v21 1, cellOf v21 2, cellOf v21 3, cellOf v21 4]⟩)) (pBin Try.prog 3 .sub (.int .i64 (m : Nat)) (.int .i64 1) (fun v24 => L [ptr b, v24, .bool false, .int .i64 0, .string ⟨#[]⟩, .slice none 0 0, .slice none 0 0, cellOf v21 0, cellOf v21 1, cellOf v21 2, cellOf v21 3, cellOf v21 4] s20))) (pBin Try.prog 3 .sub (.int .i64 (m : Nat)) (.int .i64 1) (fun v25 => L [ptr b, v25, .bool false, .int .i64 0, .string ⟨#[]⟩, .slice none 0 0, .slice none 0 0, d0, d1, d2, d3, d4] s20))))))) := by
      intro s6 q6 d hrd6 hq6 k6 hd
      have kk := (k4.trans k5).trans k6
      refine TreeDo_rd hrd6 (mono_rt _ _ _ _ _ kk.le hy0) (by omega) (c := (((1 + j3 : Nat) : Int), ps, [], 0, d)) ⟨pv, _, rfl, hv.mono k6.le fun _ _ h => h, nil_strs, by show i64r _; omega, i64_zero, by show d.size ≤ _; omega⟩ (by show d.size ≤ _; omega) fun ey z s7 cd k7 hrd7 hz hzs hcd => ?_
      have hz0 := hz
      obtain ⟨f0, f1, f2, f3, f4, rfl, hp7⟩ := hz.shape
      rw [pExtract_s rfl, pExtract_s rfl, hp7, pBin_eq, pIf_d]
      simp only [cellOf_agg, List.getD_cons_zero, List.getD_cons_succ]
      refine ⟨fun _ => ?_, fun _ => ?_⟩
      · rw [hp7, pBin_sub (by omega)]
        exact hL _ _ (m - 1) (by omega) ⟨m - 1, q6, f0, f1, f2, f3, f4, z, rfl, by omega, by omega, hrd7, (ks.trans kk).trans k7, hz0, by omega, by rw [show ((m : Nat) : Int) - 1 = ((m - 1 : Nat) : Int) by omega]⟩
      · rw [pBin_sub (by omega)]
        exact hL _ _ (m - 1) (by omega) ⟨m - 1, q6, d0, d1, d2, d3, d4, y, rfl, by omega, by omega, hrd7, (ks.trans kk).trans k7, mono_rt _ _ _ _ _ (kk.trans k7).le hy0, hys, by rw [show ((m : Nat) : Int) - 1 = ((m - 1 : Nat) : Int) by omega]⟩
    rw [pBin_eq, pIf_d]
    refine ⟨fun _ => ?_, fun _ => DO s5 _ ⟨#[]⟩ hrd5 (by omega) (Keeps.refl _) (by decide)⟩
    refine spec_l4Data hrd5 (by omega) fun d s6 hd hrd6 k6 => ?_
    rw [pVal1 rfl]
    exact DO s6 _ d hrd6 (by omega) k6 hd
  · show AC Try.prog w0 n_p_spec_l1Rd_pick [ptr b, .int .i64 6] s _
    refine spec_pick (n := 6) hrd (by omega) (by omega) fun j4 s4 hj4 hrd4 hd4 _ => ?_
    have k4 : Keeps (s.del b) (s4.del b) := by rw [hd4]; exact Keeps.refl _
    refine spec_l4Calls hrd4 (by omega) (by omega) (Nat.le_refl _) (S := 40000000) (by omega) (mono_rt _ _ _ _ _ k4.le hy0) hys fun ey z s5 hrd5 k5 hz hzs => ?_
    have hz0 := hz
    obtain ⟨f0, f1, f2, f3, f4, rfl, hp7⟩ := hz.shape
    rw [hp7]
    simp only [cellOf_agg, List.getD_cons_zero, List.getD_cons_succ]
    exact hR _ z s5 (hrd5.more (by omega)) ((ks.trans k4).trans k5) hz0 hzs

theorem spec_l4Full {b p : Nat} (h : RD w0 σ b p) (hp : p ≤ 800000) {R : Value → Vw → Prop} (hR : OutTR w0 σ b (p + 700) 11 40000000 R) : AC Try.prog w0 n_spec_l4Full [ptr b] σ R := by
  refine ac_spec_l4Full ?_
  unfold vc_spec_l4Full
  rw [pVal1 rfl, pVal_5 rfl rfl rfl rfl rfl]
  refine loop_rule (m := 30) (fun m l s => ∃ (i q : Nat) (d0 d1 d2 d3 d4 : Value) (y : Tr), m + i = 30 ∧ q ≤ p + i ∧ RD w0 s b q ∧ Keeps (σ.del b) (s.del b) ∧ RT 11 (Av.get w0 (s.del b)) [d0, d1, d2, d3, d4] y ∧ szT 11 y ≤ 40000000 ∧
      l = [ptr b, .int .i64 (i : Nat), .bool false, .int .i64 0, .string ⟨#[]⟩, .slice none 0 0, .slice none 0 0, d0, d1, d2, d3, d4]) ?_
    ⟨0, p, _, _, _, _, _, _, rfl, by omega, h, Keeps.refl _, RT_dir0 10 _ (m := 0) (by omega), by rw [sz_dir0]; omega, rfl⟩
  rintro m l s L ⟨i, q, d0, d1, d2, d3, d4, y, hmi, hq, hrd, ks, hy, hys, rfl⟩ hL
  simp only [vget, List.getD_cons_zero, List.getD_cons_succ]
  have hy0 := hy
  have hp6 : ∀ A : Prop, pVal true 5 (.agg ⟨[d0, d1, d2, d3, d4]⟩) A ↔ A := by
    obtain ⟨_, _, _, _, _, e, hh⟩ := hy.shape
    cases e; exact hh
  refine spec_pick (n := 3) hrd (by omega) (by omega) fun j s1 hj hrd1 hd1 _ => ?_
  have k1 : Keeps (s.del b) (s1.del b) := by rw [hd1]; exact Keeps.refl _
  rw [pBin_sub (by omega), pBin_lt, pIf_d]
  refine ⟨fun hlt => ?_, fun _ => ?_⟩
  · rw [pBin_add (by omega), show (100 : Int) + (i : Nat) = ((100 + i : Nat) : Int) by omega]
    refine spec_l1Dec (by omega) fun s2 k2 => ?_
    have hrd2 := hrd1.kept k2
    have hz10 := decZ_nat (100 + i)
    have hsz := (decN_size (100 + i)).2
    rw [pBin_cat (by rw [hz10]; show 1 + _ ≤ _; omega), pVal1 rfl]
    intro n h1 h2
    obtain ⟨hne, hrd3, kk⟩ := hrd2.new (r := ⟨t_string, [.string (⟨#[102]⟩ ++ decZ ((100 + i : Nat) : Int))], 1, (0, 0)⟩) h2
    rw [pVal1 rfl, pVal1 rfl]
    have hrow := row_strs (xs := [⟨#[102]⟩ ++ decZ ((100 + i : Nat) : Int)]) (k := 1) (s := (s2.put n ⟨t_string, [.string (⟨#[102]⟩ ++ decZ ((100 + i : Nat) : Int))], 1, (0, 0)⟩).del b) h1 (by rw [del_ne hne]; exact put_at) (fun x hx => by
      rw [List.mem_singleton.1 hx, ByteArray.size_append, hz10]; show 1 + _ ≤ _; omega) (by simp)
    have K3 := (k1.trans (keeps_del k2)).trans kk
    refine TreeDo_rd hrd3 (mono_rt _ _ _ _ _ K3.le hy0) (by omega) (c := (2, [⟨#[102]⟩ ++ decZ ((100 + i : Nat) : Int)], [], 0, ⟨#[]⟩)) ⟨_, _, rfl, hrow, nil_strs, i64_two, i64_zero, by show 0 ≤ _; omega⟩ (by show 0 ≤ _; omega) fun ey z s7 cd k7 hrd7 hz hzs hcd => ?_
    have hz0 := hz
    obtain ⟨f0, f1, f2, f3, f4, rfl, hp7⟩ := hz.shape
    rw [pExtract_s rfl, pExtract_s rfl, hp7]
    simp only [cellOf_agg, List.getD_cons_zero, List.getD_cons_succ]
    rw [pBin_add (by omega)]
    exact hL _ _ (m - 1) (by omega) ⟨i + 1, q + 1, f0, f1, f2, f3, f4, z, by omega, by omega, hrd7, (ks.trans K3).trans k7, hz0, by omega, by simp⟩
  · show pVal true 5 (.agg ⟨[d0, d1, d2, d3, d4]⟩) _
    rw [hp6]
    exact hR _ y s1 (hrd1.more (by omega)) (ks.trans k1) (mono_rt _ _ _ _ _ k1.le hy0) hys
end
end Go.Proofs.Ytkbhjejalkbogaa

/- A tree that is drawn and spoilt: a copy in rows of our own that is written. -/
set_option linter.unusedVariables false
set_option linter.unusedSimpArgs false
set_option maxRecDepth 20000
namespace Go.Av
open Go Go.RowKit
/-- A view without some rows. -/
def Vw.delF (σ : Vw) (F : List Nat) : Vw := fun i => if i ∈ F then none else σ i
theorem delF_in {σ : Vw} {F : List Nat} {i : Nat} (h : i ∈ F) : (σ.delF F) i = none := by simp [Vw.delF, h]
theorem delF_out {σ : Vw} {F : List Nat} {i : Nat} (h : i ∉ F) : (σ.delF F) i = σ i := by simp [Vw.delF, h]
theorem delF_keeps {σ : Vw} {F : List Nat} : Keeps (σ.delF F) σ := fun i r h => by
  by_cases hi : i ∈ F
  · rw [delF_in hi] at h; cases h
  · rw [delF_out hi] at h; exact h
theorem delF_some {σ : Vw} {F : List Nat} {i : Nat} {r : Row} (h : (σ.delF F) i = some r) : i ∉ F ∧ σ i = some r := by
  by_cases hi : i ∈ F
  · rw [delF_in hi] at h; cases h
  · rw [delF_out hi] at h; exact ⟨hi, h⟩
section
variable {w0 : World} {σ : Vw} {α : Type}
/-- Elements in rows of their own are read where they lie. -/
theorem OAcc.to_base {ety n : Nat} {Rel : (Addr → Option Value) → List Value → α → Prop} {O : Vw → List Nat → List Value → α → Prop} (ok : OOk w0 n Rel O) {F D : List Nat} {v : Value} {xs : List α} (h : OAcc w0 ety n O σ F v xs) (hD : ∀ i, i ∈ F → i ∉ D) :
    ∃ F2, (∀ i, i ∈ F2 → i ∈ F) ∧ OAcc w0 ety n (OB Rel (Av.get w0 (σ.delF (D ++ F2)))) σ F2 v xs := by
  obtain ⟨h1, h2, ⟨rfl, rfl, rfl⟩ | ⟨b, cap, css, Fs, g1, g2, g3, g4, g5, g6, g7, g8⟩⟩ := h
  · exact ⟨[], fun i h => h, OAcc.nil⟩
  · subst g7
    refine ⟨[b], fun i h => by rw [List.mem_singleton.1 h]; exact List.mem_cons_self, h1, by simp, .inr ⟨b, cap, css, List.replicate xs.length [], g1, g2, g3, g4, g5, by simp, by simp, fun j c x f e1 e2 e3 => ?_⟩⟩
    rw [List.getElem?_replicate] at e3
    split at e3
    · cases e3
      refine ⟨rfl, ?_⟩
      have hjl : j < Fs.length := by have := (List.getElem?_eq_some_iff.1 e2).1; omega
      have e4 := List.getElem?_eq_getElem hjl
      have hO := g8 j c x _ e1 e2 e4
      have hmem : ∀ i, i ∈ Fs[j] → i ∈ Fs.flatten := fun i hi => List.mem_flatten.2 ⟨_, List.getElem_mem hjl, hi⟩
      refine ok.rel _ _ _ _ (ok.frame _ (σ.delF (D ++ [b])) _ _ _ hO fun i hi => delF_out fun hi' => ?_)
      have hif := hmem i hi
      rcases List.mem_append.1 hi' with e | e
      · exact hD i (List.mem_cons_of_mem _ hif) e
      · rw [List.mem_singleton.1 e] at hif
        exact (List.nodup_cons.1 h2).1 hif
    · cases e3
theorem pIndexAddr_mono {n : Nat} {v i : Value} {K K' : Value → Prop} (h : pIndexAddr n v i K) (hK : ∀ p, K p → K' p) : pIndexAddr n v i K' := by
  obtain ⟨a, len, cap, k, m, h1, h2, h3, h4, h5⟩ := h
  exact ⟨a, len, cap, k, m, h1, h2, h3, h4, hK _ h5⟩
end
end Go.Av
namespace Go.Proofs.Ytkbhjejalkbogaa
open Go Go.Av Go.RowKit

section
variable {w0 : World} {σ : Vw}

theorem spec_l1CopyA {n : Nat} {es : List Value} {d : Bool} {md : Int} {t : ByteArray} {ns : List ByteArray} {ks : List Tr} {R : Value → Vw → Prop} (h : RT (n + 1) (Av.get w0 σ) es (.mk d md t ns ks)) (hf : fitT (n + 1) (.mk d md t ns ks))
    (hR : ∀ u w F1 F2 s, Keeps σ s → OAcc w0 t_string 1 OStr s F1 u ns → OAcc w0 t_impl_Tree 5 (OT w0 n) s F2 w ks → (∀ i, i ∈ F1 → σ i = none) → (∀ i, i ∈ F2 → σ i = none) → (∀ i, i ∈ F1 → i ∉ F2) → R (.agg ⟨[.bool d, .int .i64 md, .string t, u, w]⟩) s) : AC Try.prog w0 n_spec_l1Copy [.agg ⟨es⟩] σ R := by
  obtain ⟨u, w, rfl, h2, h3, h4, h5⟩ := h
  obtain ⟨f1, f2, f3⟩ := hf
  refine ac_spec_l1Copy ?_
  unfold vc_spec_l1Copy
  rw [pVal_5 rfl rfl rfl h4.one h5.one]
  simp only [cellOf_agg, List.getD_cons_zero, List.getD_cons_succ]
  intro b hb1 hb2
  have kb : Keeps σ (σ.put b ⟨t_string, [], 0, (0, 0)⟩) := Keeps.put hb2
  have hb0 : ∀ i, i ∈ [b] → σ i = none := fun i hi => by rw [List.mem_singleton.1 hi]; exact hb2
  refine (OAcc.new (w0 := w0) (σ := σ) (ety := t_string) (n := 1) (O := OStr) hb1).all (ok_str w0) h4 kb.le (fun es y hy => ⟨rfl, hy⟩) (by simpa using f1) (by omega) fun u' F1 s1 k1 o1 g1 => ?_
  have K1 := k1.old kb hb0
  have hF1 := fresh_in kb hb0 g1
  rw [List.nil_append] at o1
  have hl5 := h5.le
  rw [pVal1 rfl, pVal1 rfl, pVal1 rfl, pVal1 (OSl.one' o1.osl), pVal_5 rfl rfl rfl (OSl.one' o1.osl) rfl]
  refine loop_rule (m := ks.length) (fun m l s => ∃ (j : Nat) (v' : Value) (F2 : List Nat), m + j = ks.length ∧ Keeps σ s ∧ OAcc w0 t_string 1 OStr s F1 u' ns ∧ OAcc w0 t_impl_Tree 5 (OT w0 n) s F2 v' (ks.take j) ∧ (∀ i, i ∈ F2 → σ i = none) ∧ (∀ i, i ∈ F1 → i ∉ F2) ∧
      l = [.int .i64 (j : Nat), .bool d, .int .i64 md, .string t, u, w, .bool false, .int .i64 0, .string ⟨#[]⟩, .slice none 0 0, .slice none 0 0, .bool d, .int .i64 md, .string t, u', v']) ?_
    ⟨0, _, [], by omega, K1, o1, OAcc.nil, by simp, by simp, rfl⟩
  rintro m l s L ⟨j, v', F2, hm, ks', p1, p2, hF2, hd, rfl⟩ hL
  simp only [vget, List.getD_cons_zero, List.getD_cons_succ]
  have h5' := h5.mono ks'.le fun es x => mono_rt n _ _ es x ks'.le
  rw [h5'.len, pBin_lt, pIf_d]
  refine ⟨fun hi => ?_, fun hi => ?_⟩
  · have hx := List.getElem?_eq_getElem (show j < ks.length by omega)
    generalize hxi : ks[j]'(by omega) = y at hx
    refine h5'.at hx fun g hg => ?_
    refine spec_l1Copy n hg (f3 y (List.mem_of_getElem? hx)) fun es3 F3 s3 k3 o3 g3 => ?_
    obtain ⟨a, b', c, d', e, rfl, _, hpv⟩ := RT.five ((ok_rt w0 n).rel _ _ _ _ o3)
    rw [hpv]
    simp only [cellOf_agg, List.getD_cons_zero, List.getD_cons_succ]
    have p2' := p2.frame (ok_rt w0 n) (k3.but_at fun b hb => (p2.dom (ok_rt w0 n) b hb).2)
    have p1' := p1.frame (ok_str w0) (k3.but_at fun b hb => (p1.dom (ok_str w0) b hb).2)
    refine p2'.one (ok_rt w0 n) o3 (fun i hi hi' => (p2.dom (ok_rt w0 n) i hi').2 (g3 i hi)) (by rw [List.length_take]; omega) (by omega) fun v4 F4 s4 k4 o4 g4 => ?_
    rw [pVal1 (OSl.one' o4.osl), pBin_add (by omega)]
    have K3 := ks'.trans k3
    have hF3 : ∀ i, i ∈ F3 → σ i = none := fun i hi => none_at ks' (g3 i hi)
    refine hL _ _ (m - 1) (by omega) ⟨j + 1, v4, F4, by omega, k4.old K3 hF2, p1'.frame (ok_str w0) (k4.at (fun i hi => (p1'.dom (ok_str w0) i hi).2) hd), ?_, fun i hi => ?_, fun i hi hi' => ?_, rfl⟩
    · rw [List.take_add_one, hx]; exact o4
    · rcases g4 i hi with h | h | h
      · exact hF2 i h
      · exact hF3 i h
      · exact none_at K3 h
    · rcases g4 i hi' with h | h | h
      · exact hd i hi h
      · exact (p1.dom (ok_str w0) i hi).2 (g3 i h)
      · exact (p1'.dom (ok_str w0) i hi).2 h
  · have e : j = ks.length := by omega
    subst e
    rw [List.take_length] at p2
    rw [pVal_5 rfl rfl rfl (OSl.one' p1.osl) (OSl.one' p2.osl)]
    exact hR u' v' F1 F2 s ks' p1 p2 hF1 hF2 hd

/-- A tree in rows of our own, beside a reader. -/
def SP (w0 : World) (σ : Vw) (b q N : Nat) (s : Vw) (u w : Value) (ns : List ByteArray) (ks : List Tr) : Prop := ∃ F1 F2, RD w0 s b q ∧ Keeps (σ.del b) (s.del b) ∧ (∀ i, i ∈ F1 → (σ.del b) i = none ∧ i ≠ b) ∧ (∀ i, i ∈ F2 → (σ.del b) i = none ∧ i ≠ b) ∧ (∀ i, i ∈ F1 → i ∉ F2) ∧
  OAcc w0 t_string 1 OStr s F1 u ns ∧ OAcc w0 t_impl_Tree 5 (OB (RT N) (Av.get w0 (s.delF (b :: (F1 ++ F2))))) s F2 w ks
theorem SP.next {b q q' N : Nat} {s s' : Vw} {u w : Value} {ns : List ByteArray} {ks : List Tr} (h : SP w0 σ b q N s u w ns ks) (hrd : RD w0 s' b q') (k : Keeps (s.del b) (s'.del b)) : SP w0 σ b q' N s' u w ns ks := by
  obtain ⟨F1, F2, h1, h2, h3, h4, h5, h6, h7⟩ := h
  have okB := ok_base (rok_rt N) w0 (Av.get w0 (s.delF (b :: (F1 ++ F2))))
  have kp : ∀ i, i ≠ b → s i ≠ none → s' i = s i := fun i hi hn => by
    cases hs : s i with
    | none => exact absurd hs hn
    | some r => exact keeps_out k hi hs
  refine ⟨F1, F2, hrd, h2.trans k, h3, h4, h5, h6.frame (ok_str w0) fun i hi => kp i (h3 i hi).2 (h6.dom (ok_str w0) i hi).2, ?_⟩
  refine OAcc.rebase (rok_rt N) (OAcc.frame okB h7 fun i hi => kp i (h4 i hi).2 (h7.dom okB i hi).2) (Keeps.le fun i r hi => ?_)
  obtain ⟨e1, e2⟩ := delF_some hi
  rw [delF_out e1]
  exact keeps_out k (fun e => e1 (by rw [e]; exact List.mem_cons_self)) e2
theorem SP.rd {b q N : Nat} {s : Vw} {u w : Value} {ns : List ByteArray} {ks : List Tr} (h : SP w0 σ b q N s u w ns ks) : RD w0 s b q := by obtain ⟨F1, F2, h1, _⟩ := h; exact h1
theorem SP.keeps {b q N : Nat} {s : Vw} {u w : Value} {ns : List ByteArray} {ks : List Tr} (h : SP w0 σ b q N s u w ns ks) : Keeps (σ.del b) (s.del b) := by obtain ⟨F1, F2, h1, h2, _⟩ := h; exact h2
/-- It is a tree. -/
theorem SP.tree {b q N : Nat} {s : Vw} {u w : Value} {ns : List ByteArray} {ks : List Tr} (h : SP w0 σ b q N s u w ns ks) {d : Bool} {m : Int} {t : ByteArray} (hm : -9223372036854775808 ≤ m ∧ m ≤ 9223372036854775807) (ht : t.size ≤ 9223372036854775807) :
    RT (N + 1) (Av.get w0 (s.del b)) [.bool d, .int .i64 m, .string t, u, w] (.mk d m t ns ks) := by
  obtain ⟨F1, F2, h1, h2, h3, h4, h5, h6, h7⟩ := h
  have okB := ok_base (rok_rt N) w0 (Av.get w0 (s.delF (b :: (F1 ++ F2))))
  refine ⟨u, w, rfl, hm, ht, (h6.frame (σ' := s.del b) (ok_str w0) fun i hi => del_ne (h3 i hi).2).osl.rel (ok_str w0), ?_⟩
  refine RSl.unbase (rok_rt N) ((OAcc.osl (OAcc.frame (σ' := s.del b) okB h7 fun i hi => del_ne (h4 i hi).2)).rel okB) (Keeps.le fun i r hi => ?_)
  obtain ⟨e1, e2⟩ := delF_some hi
  rw [del_ne fun e => e1 (by rw [e]; exact List.mem_cons_self)]; exact e2
theorem SP.ones {b q N : Nat} {s : Vw} {u w : Value} {ns : List ByteArray} {ks : List Tr} (h : SP w0 σ b q N s u w ns ks) : u.oneCell' = true ∧ w.oneCell' = true := by
  obtain ⟨F1, F2, h1, h2, h3, h4, h5, h6, h7⟩ := h
  exact ⟨OSl.one' h6.osl, OSl.one' h7.osl⟩
/-- A name and an empty part are added. -/
theorem SP.name {b q N : Nat} {s : Vw} {u w : Value} {ns : List ByteArray} {ks : List Tr} (h : SP w0 σ b q N s u w ns ks) {nm : ByteArray} (hn : nm.size ≤ 1000000) (hl : ns.length ≤ 100000000000) {K : Value → Vw → Prop}
    (hK : ∀ u' s', SP w0 σ b q N s' u' w (ns ++ [nm]) ks → K u' s') : allOne [.string nm] ∧ pAppend w0 t_string 1 16 u 1 [.string nm] s K := by
  obtain ⟨F1, F2, h1, h2, h3, h4, h5, h6, h7⟩ := h
  have okB := ok_base (rok_rt N) w0 (Av.get w0 (s.delF (b :: (F1 ++ F2))))
  refine h6.one (ok_str w0) (f := []) (y := nm) ⟨rfl, rfl, by omega⟩ (fun i hi => by cases hi) (by omega) (by omega) fun u' F1' s' k o f => ?_
  have hbF : b ∉ F1 := fun hb => (h3 b hb).2 rfl
  have hsb : s' b = s b := by
    cases hb : s b with
    | none => exact absurd hb h1.at
    | some r => exact k b r hb hbF
  have hsk : Keeps (σ.del b) (s'.del b) := fun i r hi => by
    obtain ⟨e1, e2⟩ := del_some hi
    have e3 := h2 i r hi
    rw [del_ne e1] at e3 ⊢
    exact k i r e3 fun hf => by rw [(h3 i hf).1] at hi; cases hi
  have hF1' : ∀ i, i ∈ F1' → (σ.del b) i = none ∧ i ≠ b := fun i hi => by
    rcases f i hi with e | e | e
    · exact h3 i e
    · cases e
    · have hib : i ≠ b := fun e' => h1.at (e' ▸ e)
      refine ⟨?_, hib⟩
      rw [del_ne hib]; exact none_out h2 hib e
  refine hK u' s' ⟨F1', F2, h1.keep hsb, hsk, hF1', h4, fun i hi hi' => ?_, o, ?_⟩
  · rcases f i hi with e | e | e
    · exact h5 i e hi'
    · cases e
    · exact (h7.dom okB i hi').2 e
  · refine OAcc.rebase (rok_rt N) (OAcc.frame okB h7 fun i hi => ?_) (Keeps.le fun i r hi => ?_)
    · cases hs : s i with
      | none => exact absurd hs (h7.dom okB i hi).2
      | some r => exact k i r hs fun hf => h5 i hf hi
    · obtain ⟨e1, e2⟩ := delF_some hi
      have e3 : i ∉ F1 := fun h => e1 (by simp [h])
      have e4 : i ∉ F2 := fun h => e1 (by simp [h])
      have e5 : i ≠ b := fun h => e1 (by simp [h])
      rw [delF_out]
      · exact k i r e2 e3
      · intro h
        simp only [List.mem_cons, List.mem_append] at h
        rcases h with h | h | h
        · exact e5 h
        · rcases f i h with e | e | e
          · exact e3 e
          · cases e
          · rw [e2] at e; cases e
        · exact e4 h
theorem SP.kid {b q N : Nat} {s : Vw} {u w : Value} {ns : List ByteArray} {ks : List Tr} (h : SP w0 σ b q (N + 1) s u w ns ks) (hl : ks.length ≤ 100000000000) {K : Value → Vw → Prop}
    (hK : ∀ w' s', SP w0 σ b q (N + 1) s' u w' ns (ks ++ [zeroT]) → K w' s') : allOne [.bool false, .int .i64 0, .string ⟨#[]⟩, .slice none 0 0, .slice none 0 0] ∧ pAppend w0 t_impl_Tree 5 80 w 1 [.bool false, .int .i64 0, .string ⟨#[]⟩, .slice none 0 0, .slice none 0 0] s K := by
  obtain ⟨F1, F2, h1, h2, h3, h4, h5, h6, h7⟩ := h
  have okB := ok_base (rok_rt (N + 1)) w0 (Av.get w0 (s.delF (b :: (F1 ++ F2))))
  refine h7.one okB (f := []) (y := zeroT) ⟨rfl, RT_zero N _⟩ (fun i hi => by cases hi) (by omega) (by omega) fun w' F2' s' k o f => ?_
  have hbF : b ∉ F2 := fun hb => (h4 b hb).2 rfl
  have hsb : s' b = s b := by
    cases hb : s b with
    | none => exact absurd hb h1.at
    | some r => exact k b r hb hbF
  have hsk : Keeps (σ.del b) (s'.del b) := fun i r hi => by
    obtain ⟨e1, e2⟩ := del_some hi
    have e3 := h2 i r hi
    rw [del_ne e1] at e3 ⊢
    exact k i r e3 fun hf => by rw [(h4 i hf).1] at hi; cases hi
  have hF2' : ∀ i, i ∈ F2' → (σ.del b) i = none ∧ i ≠ b := fun i hi => by
    rcases f i hi with e | e | e
    · exact h4 i e
    · cases e
    · have hib : i ≠ b := fun e' => h1.at (e' ▸ e)
      refine ⟨?_, hib⟩
      rw [del_ne hib]; exact none_out h2 hib e
  refine hK w' s' ⟨F1, F2', h1.keep hsb, hsk, h3, hF2', fun i hi hi' => ?_, h6.frame (ok_str w0) fun i hi => ?_, OAcc.rebase (rok_rt (N + 1)) o (Keeps.le fun i r hi => ?_)⟩
  · rcases f i hi' with e | e | e
    · exact h5 i hi e
    · cases e
    · exact (h6.dom (ok_str w0) i hi).2 e
  · cases hs : s i with
    | none => exact absurd hs (h6.dom (ok_str w0) i hi).2
    | some r => exact k i r hs (h5 i hi)
  · obtain ⟨e1, e2⟩ := delF_some hi
    have e3 : i ∉ F1 := fun h => e1 (by simp [h])
    have e4 : i ∉ F2 := fun h => e1 (by simp [h])
    have e5 : i ≠ b := fun h => e1 (by simp [h])
    rw [delF_out]
    · exact k i r e2 e4
    · intro h
      simp only [List.mem_cons, List.mem_append] at h
      rcases h with h | h | h
      · exact e5 h
      · exact e3 h
      · rcases f i h with e | e | e
        · exact e4 e
        · cases e
        · rw [e2] at e; cases e

/-- A copy. -/
theorem copy_sp {b q n : Nat} {es : List Value} {d : Bool} {md : Int} {t : ByteArray} {ns : List ByteArray} {ks : List Tr} {N : Nat} (hrd : RD w0 σ b q) (h : RT (n + 1) (Av.get w0 (σ.del b)) es (.mk d md t ns ks)) (hf : fitT (n + 1) (.mk d md t ns ks)) (hN : n ≤ N) {R : Value → Vw → Prop}
    (hR : ∀ u w s, SP w0 σ b q N s u w ns ks → R (.agg ⟨[.bool d, .int .i64 md, .string t, u, w]⟩) s) : AC Try.prog w0 n_spec_l1Copy [.agg ⟨es⟩] σ R := by
  refine hrd.hide (R := fun v s => Keeps (σ.del b) s ∧ ∃ u w F1 F2, v = .agg ⟨[.bool d, .int .i64 md, .string t, u, w]⟩ ∧ OAcc w0 t_string 1 OStr s F1 u ns ∧ OAcc w0 t_impl_Tree 5 (OT w0 n) s F2 w ks ∧ (∀ i, i ∈ F1 → (σ.del b) i = none) ∧ (∀ i, i ∈ F2 → (σ.del b) i = none) ∧ (∀ i, i ∈ F1 → i ∉ F2))
    (spec_l1CopyA h hf fun u w F1 F2 s k o1 o2 f1 f2 hd => ⟨k, u, w, F1, F2, rfl, o1, o2, f1, f2, hd⟩) (fun v s k hrd' hh => ?_) fun v s h => h.1
  obtain ⟨_, u, w, F1, F2, rfl, o1, o2, f1, f2, hd⟩ := hh
  have hb1 : ∀ i, i ∈ F1 → i ≠ b := fun i hi e => (o1.dom (ok_str w0) i hi).2 (by rw [e]; exact del_at)
  have hb2 : ∀ i, i ∈ F2 → i ≠ b := fun i hi e => (o2.dom (ok_rt w0 n) i hi).2 (by rw [e]; exact del_at)
  have o1' := o1.frame (σ' := s) (ok_str w0) fun i hi => (del_ne (hb1 i hi)).symm
  have o2' := o2.frame (σ' := s) (ok_rt w0 n) fun i hi => (del_ne (hb2 i hi)).symm
  obtain ⟨F3, h3, o3⟩ := OAcc.to_base (ok_rt w0 n) (D := b :: F1) o2' fun i hi hi' => by
    rcases List.mem_cons.1 hi' with e | e
    · exact hb2 i hi e
    · exact hd i e hi
  have o4 : OAcc w0 t_impl_Tree 5 (OB (RT N) (Av.get w0 (s.delF (b :: (F1 ++ F3))))) s F3 w ks := by
    obtain ⟨g1, g2, g3 | ⟨b0, cap, css, Fs, q1, q2, q3, q4, q5, q6, q7, q8⟩⟩ := o3
    · exact ⟨g1, g2, .inl g3⟩
    · exact ⟨g1, g2, .inr ⟨b0, cap, css, Fs, q1, q2, q3, q4, q5, q6, q7, fun j c x f e1 e2 e3 => by
        have := q8 j c x f e1 e2 e3
        exact ⟨this.1, RT_le hN this.2⟩⟩⟩
  exact hR u w s ⟨F1, F3, hrd', k, fun i hi => ⟨f1 i hi, hb1 i hi⟩, fun i hi => ⟨f2 i (h3 i hi), hb2 i (h3 i hi)⟩, fun i hi hi' => hd i hi (h3 i hi'), o1', o4⟩
end
end Go.Proofs.Ytkbhjejalkbogaa

/- A tree that is drawn and spoilt; any tree that is drawn; what the laws on trees draw. -/
set_option linter.unusedVariables false
set_option linter.unusedSimpArgs false
set_option maxRecDepth 20000
namespace Go.Av
open Go Go.RowKit
/-- What a call leaves, with the rows that were kept from it. -/
def Vw.mergeF (σ : Vw) (F : List Nat) (σ' : Vw) : Vw := fun i => if i ∈ F then σ i else σ' i
theorem mergeF_in {σ σ' : Vw} {F : List Nat} {i : Nat} (h : i ∈ F) : σ.mergeF F σ' i = σ i := by simp [Vw.mergeF, h]
theorem mergeF_out {σ σ' : Vw} {F : List Nat} {i : Nat} (h : i ∉ F) : σ.mergeF F σ' i = σ' i := by simp [Vw.mergeF, h]
theorem delF_mergeF {σ σ' : Vw} {F : List Nat} (h : ∀ i, i ∈ F → σ' i = none) : (σ.mergeF F σ').delF F = σ' := by
  funext i
  by_cases hi : i ∈ F
  · rw [delF_in hi, h i hi]
  · rw [delF_out hi, mergeF_out hi]
theorem AC.hideF {P : Program} {w0 : World} {f : FuncId} {args : List Value} {σ : Vw} {R R' : Value → Vw → Prop} {F : List Nat} (h : AC P w0 f args (σ.delF F) R) (hR : ∀ v σ', (∀ i, i ∈ F → σ i ≠ none → σ' i = none) → R v σ' → R' v (σ.mergeF F σ')) : AC P w0 f args σ R' := by
  refine ⟨h.1, fun w hw => ?_⟩
  have hs : Sat w0 (σ.delF F) w := ⟨hw.bel, fun i r' hi => hw.row i r' (delF_keeps i r' hi)⟩
  refine (h.2 w hs).mono ?_
  rintro e w' ⟨v, σ', he, hRv, ha⟩
  have hn : ∀ i, i ∈ F → σ i ≠ none → σ' i = none := fun i hi hne => by
    cases hc : σ' i with
    | none => rfl
    | some r' =>
      rcases ha.dom i r' hc with h1 | h1
      · exact absurd (delF_in hi) h1
      · cases hs' : σ i with
        | none => exact absurd hs' hne
        | some r => have := hw.lt hs'; omega
  refine ⟨v, σ.mergeF F σ', he, hR v σ' hn hRv, ⟨⟨ha.sat.bel, fun i r' hi => ?_⟩, ha.size, fun i hi hni => ?_, fun i r' hi => ?_⟩⟩
  · by_cases e : i ∈ F
    · rw [mergeF_in e] at hi
      obtain ⟨h1, cur, h2, h3⟩ := hw.row i _ hi
      exact ⟨h1, cur, (ha.fr i (hw.lt hi) (delF_in e)).trans h2, h3⟩
    · rw [mergeF_out e] at hi
      exact ha.sat.row i r' hi
  · refine ha.fr i hi ?_
    by_cases e : i ∈ F
    · exact delF_in e
    · rw [delF_out e]; exact hni
  · by_cases e : i ∈ F
    · rw [mergeF_in e] at hi; exact .inl (by rw [hi]; simp)
    · rw [mergeF_out e] at hi
      rcases ha.dom i r' hi with h1 | h1
      · exact .inl (by rw [delF_out e] at h1; exact h1)
      · exact .inr h1
theorem del_delF {σ : Vw} {F : List Nat} {b : Nat} : (σ.delF F).del b = σ.delF (b :: F) := by
  funext i
  by_cases e : i = b
  · subst e; rw [del_at, delF_in List.mem_cons_self]
  · rw [del_ne e]
    by_cases hi : i ∈ F
    · rw [delF_in hi, delF_in (List.mem_cons_of_mem _ hi)]
    · rw [delF_out hi, delF_out (by simp [e, hi])]
end Go.Av
namespace Go.Proofs.Ytkbhjejalkbogaa
open Go Go.Av Go.RowKit

theorem sumBy_set {α : Type} {f : α → Nat} : ∀ {l : List α} {j : Nat} {x y : α}, l[j]? = some x → sumBy f (l.set j y) + f x = sumBy f l + f y
  | a :: r, 0, x, y, h => by
    simp at h; subst h
    simp only [List.set_cons_zero, sumBy]; omega
  | a :: r, j + 1, x, y, h => by
    have := sumBy_set (f := f) (l := r) (y := y) (show r[j]? = some x by simpa using h)
    simp only [List.set_cons_succ, sumBy]; omega
  | [], j, x, y, h => by simp at h
theorem kdW_more {n m : Nat} {ks : List Tr} (h : ∀ k, k ∈ ks → IsT n k) (hm : n ≤ m) : kdW m ks = kdW n ks := by
  unfold kdW
  rw [sumBy_congr fun k hk => sz_more (h k hk) hm]

theorem RT_down : ∀ (n m : Nat) (rd : Addr → Option Value) (es : List Value) (x : Tr), RT m rd es x → IsT n x → RT n rd es x
  | 0, _, _, _, _, _, ⟨_, _, h⟩ => h.elim
  | n + 1, 0, _, _, _, h, _ => h.elim
  | n + 1, m + 1, rd, es, .mk d mo t ns ks, h, hs => by
    obtain ⟨u, w, h1, h2, h3, h4, A, cap, e1, e2, e3⟩ := h
    refine ⟨u, w, h1, h2, h3, h4, A, cap, e1, e2, fun j y hj => ?_⟩
    obtain ⟨a, es', q1, q2, q3, q4⟩ := e3 j y hj
    exact ⟨a, es', q1, q2, q3, RT_down n m rd es' y q4 (isT_kid hs (List.mem_of_getElem? hj))⟩

section
variable {w0 : World} {σ : Vw}

def VSW (w0 : World) (pb x0 x1 x2 x3 x4 : Value) (s : Vw) (R : Value → Vw → Prop) : Prop :=
  AC Try.prog w0 n_p_spec_l1Rd_pick [pb, .int .i64 8] s (fun v16 s17 => pBin Try.prog 3 .eql v16 (.int .i64 0) (fun v18 => pIf v18 (pVal false 1 (.int .i64 (-1)) (pVal false 1 (.int .i64 7) (pVal false 1 (.int .i64 8) (pNew w0 t_int [.int .i64 (-1), .int .i64 7, .int .i64 8] s17 (fun n19 s20 => AC Try.prog w0 n_p_spec_l1Rd_pick [pb, .int .i64 3] s20 (fun v21 s22 => pIndexAddr 1 (.slice (some (Addr.mk n19 0 none)) 3 3) v21 (fun v23 => pLoad w0 1 v23 s22 (fun g24 => pVal false 1 (g24 0) (pVal true 5 (.agg (⟨[x0, g24 0, x2, x3, x4]⟩)) (R (.agg (⟨[x0, g24 0, x2, x3, x4]⟩)) s22)))))))))) (pBin Try.prog 3 .eql v16 (.int .i64 1) (fun v25 => pIf v25 (pUn UnOp.not (x0) (fun v26 => pVal false 1 v26 (pVal true 5 (.agg (⟨[v26, x1, x2, x3, x4]⟩)) (R (.agg (⟨[v26, x1, x2, x3, x4]⟩)) s17)))) (pBin Try.prog 3 .eql v16 (.int .i64 2) (fun v27 => pIf v27 (pBin Try.prog t_string .add (x2) (.string ({ data := #[120] })) (fun v28 => pVal false 1 v28 (pVal true 5 (.agg (⟨[x0, x1, v28, x3, x4]⟩)) (R (.agg (⟨[x0, x1, v28, x3, x4]⟩)) s17)))) (pBin Try.prog 3 .eql v16 (.int .i64 3) (fun v29 => pIf v29 (pVal false 1 (.string ({ data := #[122, 122] })) (pVal false 1 (.string ({ data := #[] })) (pVal false 1 (.string ({ data := #[97] })) (pVal false 1 (.string ({ data := #[90] })) (pVal false 1 (.string ({ data := #[116, 111, 111, 108, 111, 110, 103] })) (pNew w0 t_string ([.string ({ data := #[122, 122] }), .string ({ data := #[] }), .string ({ data := #[97] }), .string ({ data := #[90] }), .string ({ data := #[116, 111, 111, 108, 111, 110, 103] })]) s17 (fun n30 s31 => AC Try.prog w0 n_p_spec_l1Rd_of [pb, .slice (some (Addr.mk n30 0 none)) 5 5] s31 (fun v32 s33 => pVal false 1 v32 ((allOne [v32]) ∧ (pAppend w0 t_string 1 16 (x3) 1 [v32] s33 (fun v34 s35 => pVal false 1 v34 (pVal true 5 (.agg (⟨[.bool false, .int .i64 0, .string ({ data := #[] }), .slice none 0 0, .slice none 0 0]⟩)) ((allOne ([.bool false, .int .i64 0, .string ({ data := #[] }), .slice none 0 0, .slice none 0 0])) ∧ (pAppend w0 t_impl_Tree 5 80 (x4) 1 ([.bool false, .int .i64 0, .string ({ data := #[] }), .slice none 0 0, .slice none 0 0]) s35 (fun v36 s37 => pVal false 1 v36 (pVal true 5 (.agg (⟨[x0, x1, x2, v34, v36]⟩)) (R (.agg (⟨[x0, x1, x2, v34, v36]⟩)) s37))))))))))))))))) (pBin Try.prog 3 .eql v16 (.int .i64 4) (fun v38 => pIf v38 (pVal false 1 (.string ({ data := #[122, 122, 122] })) ((allOne ([.string ({ data := #[122, 122, 122] })])) ∧ (pAppend w0 t_string 1 16 (x3) 1 ([.string ({ data := #[122, 122, 122] })]) s17 (fun v39 s40 => pVal false 1 v39 (pVal true 5 (.agg (⟨[x0, x1, x2, v39, x4]⟩)) (R (.agg (⟨[x0, x1, x2, v39, x4]⟩)) s40)))))) (pBin Try.prog 3 .eql v16 (.int .i64 5) (fun v41 => pIf v41 (AC Try.prog w0 n_p_spec_l1Rd_pick [pb, .int .i64 2] s17 (fun v42 s43 => pBin Try.prog 3 .add (.int .i64 24) v42 (fun v44 => AC Try.prog w0 n_spec_l1Many ([.string ({ data := #[100] }), v44]) s43 (fun v45 s46 => pVal false 1 v45 (pVal true 5 (.agg (⟨[x0, x1, v45, x3, x4]⟩)) (R (.agg (⟨[x0, x1, v45, x3, x4]⟩)) s46)))))) (pBin Try.prog 3 .eql v16 (.int .i64 6) (fun v47 => pIf v47 (pLoop (fun l48 K49 s50 => AC Try.prog w0 n_p_spec_l1Rd_pick [vget l48 0, .int .i64 2] s50 (fun v51 s52 => pBin Try.prog 3 .add (.int .i64 4) v51 (fun v53 => pBin Try.prog 3 .lss (vget l48 1) v53 (fun v54 => pIf v54 (pVal false 1 (.string ({ data := #[110] })) (pNew w0 t_string ([.string ({ data := #[110] })]) s52 (fun n55 s56 => pVal true 5 (.agg (⟨[vget l48 7, vget l48 8, vget l48 9, vget l48 10, vget l48 11]⟩)) (pNew w0 t_impl_Tree [vget l48 7, vget l48 8, vget l48 9, vget l48 10, vget l48 11] s56 (fun n57 s58 => pVal false 1 (.bool true) (pVal false 1 (.slice (some (Addr.mk n55 0 none)) 1 1) (pVal false 1 (.slice (some (Addr.mk n57 0 none)) 1 1) (pVal true 5 (.agg (⟨[.bool true, .int .i64 0, .string ({ data := #[] }), .slice (some (Addr.mk n55 0 none)) 1 1, .slice (some (Addr.mk n57 0 none)) 1 1]⟩)) (pBin Try.prog 3 .add (vget l48 1) (.int .i64 1) (fun v59 => K49 AX.normal ([vget l48 0, v59, vget l48 2, vget l48 3, vget l48 4, vget l48 5, vget l48 6, .bool true, .int .i64 0, .string ({ data := #[] }), .slice (some (Addr.mk n55 0 none)) 1 1, .slice (some (Addr.mk n57 0 none)) 1 1]) s58)))))))))) (K49 (AX.exit 3) [vget l48 0, vget l48 1, vget l48 2, vget l48 3, vget l48 4, vget l48 5, vget l48 6, vget l48 7, vget l48 8, vget l48 9, vget l48 10, vget l48 11] s52))))) ([pb, .int .i64 0, .bool false, .int .i64 0, .string ({ data := #[] }), .slice none 0 0, .slice none 0 0, x0, x1, x2, x3, x4]) s17 (fun x60 l61 s62 => match x60 with | .normal => pVal true 5 (.agg (⟨[vget l61 7, vget l61 8, vget l61 9, vget l61 10, vget l61 11]⟩)) (R (.agg (⟨[vget l61 7, vget l61 8, vget l61 9, vget l61 10, vget l61 11]⟩)) s62) | .ret => R (.agg (⟨[vget l61 2, vget l61 3, vget l61 4, vget l61 5, vget l61 6]⟩)) s62 | .exit i63 => (match Nat.beq i63 3 with | true => pVal true 5 (.agg (⟨[vget l61 7, vget l61 8, vget l61 9, vget l61 10, vget l61 11]⟩)) (R (.agg (⟨[vget l61 7, vget l61 8, vget l61 9, vget l61 10, vget l61 11]⟩)) s62) | false => (match Nat.beq i63 0 with | true => pVal true 5 (.agg (⟨[vget l61 7, vget l61 8, vget l61 9, vget l61 10, vget l61 11]⟩)) (R (.agg (⟨[vget l61 7, vget l61 8, vget l61 9, vget l61 10, vget l61 11]⟩)) s62) | false => False)))) (pLoop (fun l64 K65 s66 => pBin Try.prog 3 .lss (vget l64 0) (.int .i64 30) (fun v67 => pIf v67 (pBin Try.prog 3 .add (.int .i64 100) (vget l64 0) (fun v68 => AC Try.prog w0 n_spec_l1Dec [v68] s66 (fun v69 s70 => pBin Try.prog t_string .add (.string ({ data := #[122, 122] })) v69 (fun v71 => pVal false 1 v71 ((allOne [v71]) ∧ (pAppend w0 t_string 1 16 (vget l64 9) 1 [v71] s70 (fun v72 s73 => pVal false 1 v72 (pVal true 5 (.agg (⟨[.bool false, .int .i64 0, .string ({ data := #[] }), .slice none 0 0, .slice none 0 0]⟩)) ((allOne ([.bool false, .int .i64 0, .string ({ data := #[] }), .slice none 0 0, .slice none 0 0])) ∧ (pAppend w0 t_impl_Tree 5 80 (vget l64 10) 1 ([.bool false, .int .i64 0, .string ({ data := #[] }), .slice none 0 0, .slice none 0 0]) s73 (fun v74 s75 => pVal false 1 v74 (pBin Try.prog 3 .add (vget l64 0) (.int .i64 1) (fun v76 => K65 AX.normal [v76, vget l64 1, vget l64 2, vget l64 3, vget l64 4, vget l64 5, vget l64 6, vget l64 7, vget l64 8, v72, v74] s75))))))))))))) (K65 (AX.exit 1) [vget l64 0, vget l64 1, vget l64 2, vget l64 3, vget l64 4, vget l64 5, vget l64 6, vget l64 7, vget l64 8, vget l64 9, vget l64 10] s66))) ([.int .i64 0, .bool false, .int .i64 0, .string ({ data := #[] }), .slice none 0 0, .slice none 0 0, x0, x1, x2, x3, x4]) s17 (fun x77 l78 s79 => match x77 with | .normal => pVal true 5 (.agg (⟨[vget l78 6, vget l78 7, vget l78 8, vget l78 9, vget l78 10]⟩)) (R (.agg (⟨[vget l78 6, vget l78 7, vget l78 8, vget l78 9, vget l78 10]⟩)) s79) | .ret => R (.agg (⟨[vget l78 1, vget l78 2, vget l78 3, vget l78 4, vget l78 5]⟩)) s79 | .exit i80 => (match Nat.beq i80 1 with | true => pVal true 5 (.agg (⟨[vget l78 6, vget l78 7, vget l78 8, vget l78 9, vget l78 10]⟩)) (R (.agg (⟨[vget l78 6, vget l78 7, vget l78 8, vget l78 9, vget l78 10]⟩)) s79) | false => (match Nat.beq i80 0 with | true => pVal true 5 (.agg (⟨[vget l78 6, vget l78 7, vget l78 8, vget l78 9, vget l78 10]⟩)) (R (.agg (⟨[vget l78 6, vget l78 7, vget l78 8, vget l78 9, vget l78 10]⟩)) s79) | false => False))))))))))))))))))

set_option maxHeartbeats 8000000 in
/-- A tree of our own is spoilt in one place. -/
theorem spoil_here {b q n : Nat} {s : Vw} {d : Bool} {m : Int} {t : ByteArray} {u w : Value} {ns : List ByteArray} {ks : List Tr} (h : SP w0 σ b q (n + 5) s u w ns ks) (hq : q ≤ 1000000) (hm : i64r m) (ht : t.size ≤ 100000000) (hk : ∀ k, k ∈ ks → IsT n k) (hx : IsT (n + 1) (.mk d m t ns ks)) (hsz : nmW ns + kdW n ks ≤ 100000000) {R : Value → Vw → Prop}
    (hR : OutTR w0 σ b (q + 15) (n + 6) (t.size + nmW ns + kdW n ks + 400) R) : VSW w0 (ptr b) (.bool d) (.int .i64 m) (.string t) u w s R := by
  unfold VSW
  have hkd : kdW (n + 5) ks = kdW n ks := kdW_more hk (by omega)
  have hl1 : ns.length ≤ 100000000 := by unfold nmW at hsz; omega
  have hl2 : ks.length ≤ 100000000 := by unfold kdW at hsz; omega
  -- what is handed back
  have fin : ∀ {s' : Vw} {q' : Nat} {d' : Bool} {m' : Int} {t' : ByteArray} {u' w' : Value} {ns' : List ByteArray} {ks' : List Tr}, SP w0 σ b q' (n + 5) s' u' w' ns' ks' → q' ≤ q + 15 → i64r m' → t'.size ≤ 200000000 → t'.size + nmW ns' + kdW (n + 5) ks' ≤ t.size + nmW ns + kdW n ks + 400 →
      pVal true 5 (.agg ⟨[.bool d', .int .i64 m', .string t', u', w']⟩) (R (.agg ⟨[.bool d', .int .i64 m', .string t', u', w']⟩) s') := fun {s' q' d' m' t' u' w' ns' ks'} h' hq' hm' ht' hsz' => by
    obtain ⟨o1, o2⟩ := h'.ones
    rw [pVal_5 rfl rfl rfl o1 o2]
    refine hR _ _ s' (h'.rd.more hq') h'.keeps (h'.tree (d := d') (m := m') (t := t') hm' (by omega)) ?_
    show t'.size + (ns'.length + sumS ns') + (ks'.length + sumBy (szT (n + 5)) ks') ≤ _
    unfold nmW kdW at hsz' ⊢
    omega
  obtain ⟨o1, o2⟩ := h.ones
  refine spec_pick (n := 8) h.rd (by omega) (by omega) fun j s1 hj hrd1 hd1 _ => ?_
  have k1 : Keeps (s.del b) (s1.del b) := by rw [hd1]; exact Keeps.refl _
  have h1 := h.next hrd1 k1
  rw [pBin_eq, pIf_d]
  refine ⟨fun _ => ?_, fun _ => ?_⟩
  · rw [pVal1 rfl, pVal1 rfl, pVal1 rfl]
    refine int_lit (xs := [-1, 7, 8]) hrd1 (by omega) (by simp) rfl rfl (K := fun x s => pVal false 1 x (pVal true 5 (.agg (⟨[.bool d, x, .string t, u, w]⟩)) (R (.agg (⟨[.bool d, x, .string t, u, w]⟩)) s))) fun x s2 hx hrd2 k2 => ?_
    rw [pVal1 rfl]
    have hx : i64r x := by simp at hx; rcases hx with rfl | rfl | rfl <;> omega
    exact fin (h1.next hrd2 k2) (by omega) hx (by omega) (by rw [hkd]; omega)
  rw [pBin_eq, pIf_d]
  refine ⟨fun _ => ?_, fun _ => ?_⟩
  · rw [pUn_not, pVal1 rfl]
    exact fin h1 (by omega) hm (by omega) (by rw [hkd]; omega)
  rw [pBin_eq, pIf_d]
  refine ⟨fun _ => ?_, fun _ => ?_⟩
  · have e1 : (⟨#[120]⟩ : ByteArray).size = 1 := rfl
    rw [pBin_cat (by rw [e1]; omega), pVal1 rfl]
    exact fin h1 (by omega) hm (by rw [ByteArray.size_append, e1]; omega) (by rw [hkd, ByteArray.size_append, e1]; omega)
  rw [pBin_eq, pIf_d]
  refine ⟨fun _ => ?_, fun _ => ?_⟩
  · rw [pVal1 rfl, pVal1 rfl, pVal1 rfl, pVal1 rfl, pVal1 rfl]
    have hsz7 : ∀ x, x ∈ [(⟨#[122, 122]⟩ : ByteArray), ⟨#[]⟩, ⟨#[97]⟩, ⟨#[90]⟩, ⟨#[116, 111, 111, 108, 111, 110, 103]⟩] → x.size ≤ 7 := by
      intro x hx
      simp at hx
      rcases hx with rfl | rfl | rfl | rfl | rfl <;> decide
    refine of_lit (xs := [(⟨#[122, 122]⟩ : ByteArray), ⟨#[]⟩, ⟨#[97]⟩, ⟨#[90]⟩, ⟨#[116, 111, 111, 108, 111, 110, 103]⟩]) hrd1 (by omega) (by simp) (fun x hx => by have := hsz7 x hx; omega) rfl rfl fun x s2 hx hrd2 k2 => ?_
    have hxs := hsz7 x hx
    rw [pVal1 rfl]
    refine (h1.next hrd2 k2).name (by omega) (by omega) fun u2 s3 h3 => ?_
    rw [pVal1 h3.ones.1, pVal_5 rfl rfl rfl rfl rfl]
    refine h3.kid (N := n + 4) (by omega) fun w2 s4 h4 => ?_
    rw [pVal1 h4.ones.2]
    exact fin h4 (by omega) hm (by omega) (by rw [nmW_snoc, kdW_snoc, hkd, sz_zero]; omega)
  rw [pBin_eq, pIf_d]
  refine ⟨fun _ => ?_, fun _ => ?_⟩
  · rw [pVal1 rfl]
    have e1 : (⟨#[122, 122, 122]⟩ : ByteArray).size = 3 := rfl
    refine h1.name (by rw [e1]; omega) (by omega) fun u2 s3 h3 => ?_
    rw [pVal1 h3.ones.1]
    exact fin h3 (by omega) hm (by omega) (by rw [nmW_snoc, hkd, e1]; omega)
  rw [pBin_eq, pIf_d]
  refine ⟨fun _ => ?_, fun _ => ?_⟩
  · refine spec_pick (n := 2) hrd1 (by omega) (by omega) fun j2 s2 hj2 hrd2 hd2 _ => ?_
    have k2 : Keeps (s1.del b) (s2.del b) := by rw [hd2]; exact Keeps.refl _
    rw [pBin_add (by omega), show (24 : Int) + (j2 : Nat) = ((24 + j2 : Nat) : Int) by omega]
    have e1 : (⟨#[100]⟩ : ByteArray).size = 1 := rfl
    refine spec_l1Many (s0 := ⟨#[100]⟩) (n := 24 + j2) (by rw [e1]; omega) (by rw [e1]; omega) (by omega) fun t2 ht2 => ?_
    rw [e1] at ht2
    rw [pVal1 rfl]
    exact fin (h1.next hrd2 k2) (by omega) hm (by omega) (by rw [hkd]; omega)
  rw [pBin_eq, pIf_d]
  refine ⟨fun _ => ?_, fun _ => ?_⟩
  · -- wrapped
    refine loop_rule (m := 5) (fun mm l st => ∃ (i q' : Nat) (d0 : Bool) (m0 : Int) (t0 : ByteArray) (u0 w0' : Value) (y : Tr), mm + i = 5 ∧ q' ≤ q + 1 + i ∧ RD w0 st b q' ∧ Keeps (σ.del b) (st.del b) ∧ RT (n + 1 + i) (Av.get w0 (st.del b)) [.bool d0, .int .i64 m0, .string t0, u0, w0'] y ∧ szT (n + 1 + i) y ≤ t.size + nmW ns + kdW n ks + 10 * i ∧
        l = [ptr b, .int .i64 (i : Nat), .bool false, .int .i64 0, .string ⟨#[]⟩, .slice none 0 0, .slice none 0 0, .bool d0, .int .i64 m0, .string t0, u0, w0']) ?_
      ⟨0, q + 1, d, m, t, u, w, _, rfl, by omega, hrd1, h1.keeps, RT_down _ _ _ _ _ (h1.tree (d := d) (m := m) (t := t) hm (by omega)) hx, by
        show t.size + (ns.length + sumS ns) + (ks.length + sumBy (szT n) ks) ≤ _
        unfold nmW kdW at *
        omega, rfl⟩
    rintro mm l st L ⟨i, q', d0, m0, t0, u0, w0', y, hmi, hq', hrd, ks0, hy, hys, rfl⟩ hL
    simp only [vget, List.getD_cons_zero, List.getD_cons_succ]
    have hy0 := hy
    obtain ⟨uu, ww, hcells, hmy, hty, hny, hky, hp5⟩ := hy.cells
    simp only [List.cons.injEq, and_true] at hcells
    obtain ⟨ec1, ec2, ec3, rfl, rfl⟩ := hcells
    have hp6 : ∀ A : Prop, pVal true 5 (.agg ⟨[.bool d0, .int .i64 m0, .string t0, u0, w0']⟩) A ↔ A := fun A => pVal_5 rfl rfl rfl hny.one hky.one
    refine spec_pick (n := 2) hrd (by omega) (by omega) fun j2 s2 hj2 hrd2 hd2 _ => ?_
    have k2 : Keeps (st.del b) (s2.del b) := by rw [hd2]; exact Keeps.refl _
    rw [pBin_add (by omega), pBin_lt, pIf_d]
    refine ⟨fun hlt => ?_, fun _ => ?_⟩
    · rw [pVal1 rfl]
      intro n1 g1 g2
      obtain ⟨hne1, hrd3, k3⟩ := hrd2.new (r := ⟨t_string, [.string ⟨#[110]⟩], 1, (0, 0)⟩) g2
      have r1 : (s2.put n1 ⟨t_string, [.string ⟨#[110]⟩], 1, (0, 0)⟩) n1 = some ⟨t_string, [.string ⟨#[110]⟩], 1, (0, 0)⟩ := put_at
      show pVal true 5 _ _
      generalize Vw.put s2 n1 _ = s3 at hrd3 k3 r1
      rw [hp6]
      intro n2 g3 g4
      obtain ⟨hne2, hrd4, k4⟩ := hrd3.new (r := ⟨t_impl_Tree, [.bool d0, .int .i64 m0, .string t0, u0, w0'], 5, (0, 0)⟩) g4
      have hn12 : n1 ≠ n2 := fun e => by rw [← e, r1] at g4; cases g4
      have r2 : (s3.put n2 ⟨t_impl_Tree, [.bool d0, .int .i64 m0, .string t0, u0, w0'], 5, (0, 0)⟩) n2 = some ⟨t_impl_Tree, [.bool d0, .int .i64 m0, .string t0, u0, w0'], 5, (0, 0)⟩ := put_at
      have r1' : (s3.put n2 ⟨t_impl_Tree, [.bool d0, .int .i64 m0, .string t0, u0, w0'], 5, (0, 0)⟩) n1 = some ⟨t_string, [.string ⟨#[110]⟩], 1, (0, 0)⟩ := by rw [put_ne hn12]; exact r1
      show pVal false 1 _ _
      generalize Vw.put s3 n2 _ = s4 at hrd4 k4 r1' r2
      rw [pVal1 rfl, pVal1 rfl, pVal1 rfl, pVal_5 rfl rfl rfl rfl rfl, pBin_add (by omega)]
      have K4 := (k2.trans k3).trans k4
      have e1 : (⟨#[110]⟩ : ByteArray).size = 1 := rfl
      have hr1 : RSl 1 RS (Av.get w0 (s4.del b)) (.slice (some ⟨n1, 0, none⟩) 1 1) [⟨#[110]⟩] := row_strs (xs := [⟨#[110]⟩]) (k := 1) g1 (by rw [del_ne hne1]; exact r1') (fun x hx => by rw [List.mem_singleton.1 hx, e1]; omega) (by simp)
      have hr2 : RSl 5 (RT (n + 1 + i)) (Av.get w0 (s4.del b)) (.slice (some ⟨n2, 0, none⟩) 1 1) [y] := by
        refine ⟨some ⟨n2, 0, none⟩, 1, rfl, by simp, fun jj x hx => ?_⟩
        have hjj : jj = 0 := by have := (List.getElem?_eq_some_iff.1 hx).1; simp at this; exact this
        subst hjj
        cases hx
        refine ⟨_, [.bool d0, .int .i64 m0, .string t0, u0, w0'], rfl, rfl, fun ii hii => ?_, mono_rt _ _ _ _ _ K4.le hy0⟩
        rw [addr_add, get_row g3 (by rw [del_ne hne2]; exact r2)]
        simp
      refine hL _ _ (mm - 1) (by omega) ⟨i + 1, q' + 1, true, 0, ⟨#[]⟩, _, _, .mk true 0 ⟨#[]⟩ [⟨#[110]⟩] [y], by omega, by omega, hrd4, ks0.trans K4, ⟨_, _, rfl, by omega, by show 0 ≤ _; omega, hr1, hr2⟩, ?_, by simp⟩
      show (0 : Nat) + (1 + (1 + 0)) + (1 + (szT (n + 1 + i) y + 0)) ≤ _
      omega
    · show pVal true 5 (.agg ⟨[.bool d0, .int .i64 m0, .string t0, u0, w0']⟩) _
      rw [hp6]
      refine hR _ y s2 (hrd2.more (by omega)) (ks0.trans k2) (RT_le (by omega) (mono_rt _ _ _ _ _ k2.le hy0)) ?_
      rw [sz_more hy0.isT (by omega)]; omega
  · -- full of names
    refine loop_rule (m := 30) (fun mm l st => ∃ (i : Nat) (u' w' : Value) (ns' : List ByteArray) (ks' : List Tr), mm + i = 30 ∧ SP w0 σ b (q + 1) (n + 5) st u' w' ns' ks' ∧ nmW ns' + kdW (n + 5) ks' ≤ nmW ns + kdW n ks + 12 * i ∧
        l = [.int .i64 (i : Nat), .bool false, .int .i64 0, .string ⟨#[]⟩, .slice none 0 0, .slice none 0 0, .bool d, .int .i64 m, .string t, u', w']) ?_ ⟨0, u, w, ns, ks, rfl, h1, by rw [hkd]; omega, rfl⟩
    rintro mm l st L ⟨i, u', w', ns', ks', hmi, hsp, hw', rfl⟩ hL
    simp only [vget, List.getD_cons_zero, List.getD_cons_succ]
    rw [pBin_lt, pIf_d]
    refine ⟨fun hlt => ?_, fun _ => ?_⟩
    · rw [pBin_add (by omega), show (100 : Int) + (i : Nat) = ((100 + i : Nat) : Int) by omega]
      refine spec_l1Dec (by omega) fun s2 k2 => ?_
      have h2 := hsp.next (hsp.rd.kept k2) (keeps_del k2)
      have hz10 := decZ_nat (100 + i)
      have hszd := (decN_size (100 + i)).2
      have hd3 : (decN (100 + i)).size ≤ 3 := by
        rw [decN, size_ofL]
        have : ∀ k : Fin 30, (decL (100 + k.val)).length ≤ 3 := by
          intro k
          rw [decL_big (by omega), decL_big (by omega), decL_small (by omega)]; simp
        exact this ⟨i, by omega⟩
      have e1 : (⟨#[122, 122]⟩ : ByteArray).size = 2 := rfl
      rw [pBin_cat (by rw [hz10, e1]; omega), pVal1 rfl]
      have hl1' : ns'.length ≤ 200000000 := by unfold nmW at hw' hsz; omega
      have hl2' : ks'.length ≤ 200000000 := by unfold kdW at hw' hsz; omega
      refine h2.name (by rw [ByteArray.size_append, hz10, e1]; omega) (by omega) fun u2 s3 h3 => ?_
      rw [pVal1 h3.ones.1, pVal_5 rfl rfl rfl rfl rfl]
      refine h3.kid (N := n + 4) (by omega) fun w2 s4 h4 => ?_
      rw [pVal1 h4.ones.2, pBin_add (by omega)]
      exact hL _ _ (mm - 1) (by omega) ⟨i + 1, u2, w2, _, _, by omega, h4, by rw [nmW_snoc, kdW_snoc, sz_zero, ByteArray.size_append, hz10, e1]; omega, by simp⟩
    · show pVal true 5 (.agg ⟨[.bool d, .int .i64 m, .string t, u', w']⟩) _
      exact fin hsp (by omega) hm (by omega) (by omega)
theorem spec_l4Spoil : ∀ (n : Nat) {σ : Vw} {b p : Nat} {es : List Value} {x : Tr} {R : Value → Vw → Prop}, RD w0 σ b p → p + 20 * n ≤ 900000 → RT n (Av.get w0 (σ.del b)) es x → szT n x ≤ 90000000 → OutTR w0 σ b (p + 20 * n) (n + 5) (szT n x + 400) R → AC Try.prog w0 n_spec_l4Spoil [ptr b, .agg ⟨es⟩] σ R
  | 0, _, _, _, _, _, _, _, _, h, _, _ => h.elim
  | n + 1, σ, b, p, es, .mk d m t ns ks, R, h, hp, ht, hsz, hR => by
    have ht0 := ht
    have hkT : ∀ k, k ∈ ks → IsT n k := fun k hk => isT_kid (x := .mk d m t ns ks) ht.isT hk
    obtain ⟨c0, c1, c2, c3, c4, rfl, hp5⟩ := ht.shape
    obtain ⟨u0, w0', hcells, hmr, htr, hny, hky, _⟩ := ht.cells
    have hszx : szT (n + 1) (.mk d m t ns ks) = t.size + nmW ns + kdW n ks := rfl
    rw [hszx] at hsz hR
    refine ac_spec_l4Spoil ?_
    unfold vc_spec_l4Spoil
    rw [hp5]
    simp only [cellOf_agg, List.getD_cons_zero, List.getD_cons_succ]
    refine copy_sp (N := n + 5) h ht0 (fit_of _ _ (by rw [hszx]; omega)) (by omega) fun u w s hsp => ?_
    obtain ⟨o1, o2⟩ := hsp.ones
    rw [pVal_5 rfl rfl rfl o1 o2]
    simp only [cellOf_agg, List.getD_cons_zero, List.getD_cons_succ]
    have hl : ∀ {K : Value → Prop}, pLen w K ↔ K (.int .i64 (ks.length : Nat)) := by
      obtain ⟨F1, F2, _, _, _, _, _, _, h7⟩ := hsp
      exact ((OAcc.osl h7).rel (ok_base (rok_rt (n + 5)) w0 _)).len
    have hl2 : ks.length ≤ 90000000 := by unfold kdW at hsz; omega
    have here : ∀ (s' : Vw) (q : Nat), SP w0 σ b q (n + 5) s' u w ns ks → q + 15 ≤ p + 20 * (n + 1) → VSW w0 (ptr b) (.bool d) (.int .i64 m) (.string t) u w s' R := fun s' q h' hq =>
      spoil_here h' (by omega) hmr (by omega) hkT ht0.isT (by omega) fun es y s'' r1 r2 r3 r4 => hR es y s'' (r1.more hq) r2 r3 r4
    rw [hl, pBin_gt, pIf_d]
    refine ⟨fun hpos => ?_, fun _ => here s p hsp (by omega)⟩
    refine spec_pick (n := 2) hsp.rd (by omega) (by omega) fun j s1 hj hrd1 hd1 _ => ?_
    have k1 : Keeps (s.del b) (s1.del b) := by rw [hd1]; exact Keeps.refl _
    have h1 := hsp.next hrd1 k1
    rw [pBin_eq, pIf_d]
    refine ⟨fun _ => ?_, fun _ => here s1 (p + 1) h1 (by omega)⟩
    rw [hl]
    refine spec_pick hrd1 (by omega) (by omega) fun k s2 hk hrd2 hd2 _ => ?_
    have k2 : Keeps (s1.del b) (s2.del b) := by rw [hd2]; exact Keeps.refl _
    obtain ⟨F1, F2, q1, q2, q3, q4, q5, q6, q7⟩ := h1.next hrd2 k2
    have okB := ok_base (rok_rt (n + 5)) w0 (Av.get w0 (s2.delF (b :: (F1 ++ F2))))
    have hkx := List.getElem?_eq_getElem hk
    generalize ks[k]'hk = y at hkx
    have hyT := hkT y (List.mem_of_getElem? hkx)
    have hym : szT n y ≤ kdW n ks := by have := sumBy_mem (f := szT n) (List.mem_of_getElem? hkx); unfold kdW; omega
    refine ((OAcc.osl q7).rel okB).at hkx fun g hg => ?_
    have hg : RT (n + 5) (Av.get w0 (s2.delF (b :: (F1 ++ F2)))) (expl g 0 5) y := hg
    have hbG : b ∉ F1 ++ F2 := fun hb => by
      rcases List.mem_append.1 hb with e | e
      · exact (q3 b e).2 rfl
      · exact (q4 b e).2 rfl
    have hrdF : RD w0 (s2.delF (F1 ++ F2)) b (p + 1 + 1) := q1.keep (delF_out hbG)
    refine AC.hideF (F := F1 ++ F2) (R := fun v s' => RD w0 s' b (p + 1 + 1 + 20 * n) ∧ Keeps (s2.delF (b :: (F1 ++ F2))) (s'.del b) ∧ ∃ ey z, v = .agg ⟨ey⟩ ∧ RT (n + 5) (Av.get w0 (s'.del b)) ey z ∧ szT (n + 5) z ≤ szT n y + 400)
      (spec_l4Spoil n hrdF (by omega) (RT_down _ _ _ _ _ (by rw [del_delF]; exact hg) hyT) (by omega) fun ey z s' r1 r2 r3 r4 => ⟨r1, by rw [← del_delF]; exact r2, ey, z, rfl, r3, r4⟩) fun v s' hn hh => ?_
    obtain ⟨r1, r2, ey, z, rfl, r3, r4⟩ := hh
    -- the rows that were kept from it come back
    have hdom : ∀ i, i ∈ F1 ++ F2 → s2 i ≠ none := fun i hi => by
      rcases List.mem_append.1 hi with e | e
      · exact (q6.dom (ok_str w0) i e).2
      · exact (q7.dom okB i e).2
    have hdm : (s2.mergeF (F1 ++ F2) s').delF (F1 ++ F2) = s' := delF_mergeF fun i hi => hn i hi (hdom i hi)
    have hmo : ∀ i, i ∉ F1 ++ F2 → (s2.mergeF (F1 ++ F2) s') i = s' i := fun i hi => mergeF_out hi
    have hmi : ∀ i, i ∈ F1 ++ F2 → (s2.mergeF (F1 ++ F2) s') i = s2 i := fun i hi => mergeF_in hi
    generalize s2.mergeF (F1 ++ F2) s' = s3 at hdm hmo hmi
    have hbase : s'.del b = s3.delF (b :: (F1 ++ F2)) := by rw [← hdm, del_delF]
    rw [hbase] at r2 r3
    have hrd3 : RD w0 s3 b (p + 1 + 1 + 20 * n) := r1.keep (hmo b hbG)
    have k23 : Keeps (s2.del b) (s3.del b) := fun i r hi => by
      obtain ⟨e1, e2⟩ := del_some hi
      rw [del_ne e1]
      by_cases hi' : i ∈ F1 ++ F2
      · rw [hmi i hi']; exact e2
      · have hib : i ∉ b :: (F1 ++ F2) := fun h => by
          rcases List.mem_cons.1 h with h | h
          · exact e1 h
          · exact hi' h
        have := r2 i r (by rw [delF_out hib]; exact e2)
        rw [delF_out hib] at this
        exact this
    have q7' : OAcc w0 t_impl_Tree 5 (OB (RT (n + 5)) (Av.get w0 (s3.delF (b :: (F1 ++ F2))))) s3 F2 w ks :=
      OAcc.rebase (rok_rt (n + 5)) (OAcc.frame okB q7 fun i hi => hmi i (List.mem_append_right _ hi)) r2.le
    have okB' := ok_base (rok_rt (n + 5)) w0 (Av.get w0 (s3.delF (b :: (F1 ++ F2))))
    have q6' : OAcc w0 t_string 1 OStr s3 F1 u ns := q6.frame (ok_str w0) fun i hi => hmi i (List.mem_append_left _ hi)
    have hr3 := r3
    obtain ⟨e0, e1, e2, e3, e4, rfl, hp6⟩ := r3.shape
    refine pIndexAddr_mono (OSl.store okB' (y := z) (new := [e0, e1, e2, e3, e4]) (OAcc.osl q7') hkx (fun f c s'' ho => ⟨ho.1, hr3⟩) rfl (K := fun s4 => pVal true 5 (.agg (⟨[.bool d, .int .i64 m, .string t, u, w]⟩)) (R (.agg (⟨[.bool d, .int .i64 m, .string t, u, w]⟩)) s4)) fun s4 k34 o4 => ?_) fun pp hh => by
      rw [hp6]
      simp only [cellOf_agg, List.getD_cons_zero, List.getD_cons_succ]
      exact hh
    rw [pVal_5 rfl rfl rfl o1 o2]
    have hbF2 : b ∉ F2 := fun h => hbG (List.mem_append_right _ h)
    have hs4b : s4 b = s3 b := by
      cases hb : s3 b with
      | none => exact absurd hb hrd3.at
      | some r => exact k34 b r hb hbF2
    have K4 : Keeps (σ.del b) (s4.del b) := fun i r hi => by
      obtain ⟨e1', e2'⟩ := del_some hi
      have e3' := (q2.trans k23) i r hi
      rw [del_ne e1'] at e3' ⊢
      exact k34 i r e3' fun hf => by rw [(q4 i hf).1] at hi; cases hi
    have hnm : RSl 1 RS (Av.get w0 (s4.del b)) u ns := (OSl.frame (σ' := s4.del b) (ok_str w0) q6'.osl fun i hi => by
      rw [del_ne (q3 i hi).2]
      cases hs : s3 i with
      | none => exact absurd hs (q6'.dom (ok_str w0) i hi).2
      | some r => exact k34 i r hs (q5 i hi)).rel (ok_str w0)
    have hkd : RSl 5 (RT (n + 5)) (Av.get w0 (s4.del b)) w (ks.set k z) := by
      refine RSl.unbase (rok_rt (n + 5)) ((OSl.frame (σ' := s4.del b) okB' o4 fun i hi => del_ne (q4 i hi).2).rel okB') (Keeps.le fun i r hi => ?_)
      obtain ⟨g1, g2⟩ := delF_some hi
      have g3 : i ≠ b := fun e => g1 (by simp [e])
      rw [del_ne g3]
      exact k34 i r g2 fun e => g1 (by simp [e])
    refine hR _ (.mk d m t ns (ks.set k z)) s4 ((hrd3.keep hs4b).more (by omega)) K4 ⟨u, w, rfl, hmr, htr, hnm, hkd⟩ ?_
    show t.size + (ns.length + sumS ns) + ((ks.set k z).length + sumBy (szT (n + 5)) (ks.set k z)) ≤ _
    have hset := sumBy_set (f := szT (n + 5)) (y := z) hkx
    have hyy : szT (n + 5) y = szT n y := sz_more hyT (by omega)
    have hkk := kdW_more hkT (show n ≤ n + 5 by omega)
    rw [List.length_set]
    unfold nmW kdW at *
    omega

theorem spec_l4Any {b p : Nat} (h : RD w0 σ b p) (hp : p ≤ 700000) {R : Value → Vw → Prop} (hR : OutTR w0 σ b (p + 1000) 16 50000000 R) : AC Try.prog w0 n_spec_l4Any [ptr b] σ R := by
  refine ac_spec_l4Any ?_
  unfold vc_spec_l4Any
  refine spec_pick (n := 24) h (by omega) (by omega) fun j s1 hj hrd1 hd1 _ => ?_
  have k1 : Keeps (σ.del b) (s1.del b) := by rw [hd1]; exact Keeps.refl _
  have out : ∀ {es : List Value} {y : Tr} {s : Vw} {q N : Nat}, RD w0 s b q → q ≤ p + 1000 → Keeps (σ.del b) (s.del b) → RT N (Av.get w0 (s.del b)) es y → N ≤ 16 → szT N y ≤ 50000000 → pVal true 5 (.agg ⟨es⟩) (R (.agg (⟨[cellOf (.agg ⟨es⟩) 0, cellOf (.agg ⟨es⟩) 1, cellOf (.agg ⟨es⟩) 2, cellOf (.agg ⟨es⟩) 3, cellOf (.agg ⟨es⟩) 4]⟩)) s) := fun {es y s q N} r1 r2 r3 r4 r5 r6 => by
    have r40 := r4
    obtain ⟨f0, f1, f2, f3, f4, rfl, hp7⟩ := r4.shape
    rw [hp7]
    simp only [cellOf_agg, List.getD_cons_zero, List.getD_cons_succ]
    exact hR _ y s (r1.more r2) r3 (RT_le r5 r40) (by rw [sz_more r40.isT r5]; exact r6)
  rw [pBin_eq, pIf_d]
  refine ⟨fun _ => ?_, fun _ => ?_⟩
  · refine spec_l4Tree hrd1 (by omega) fun es y s2 hrd2 k2 hy hys => ?_
    refine spec_l4Spoil 11 hrd2 (by omega) hy (by omega) fun es' z s3 hrd3 k3 hz hzs => ?_
    exact out hrd3 (by omega) ((k1.trans k2).trans k3) hz (Nat.le_refl _) (by omega)
  rw [pBin_eq, pIf_d]
  refine ⟨fun _ => ?_, fun _ => ?_⟩
  · refine spec_l4Full hrd1 (by omega) fun es y s2 hrd2 k2 hy hys => ?_
    exact out hrd2 (by omega) (k1.trans k2) hy (by omega) (by omega)
  · refine spec_l4Tree hrd1 (by omega) fun es y s2 hrd2 k2 hy hys => ?_
    exact out hrd2 (by omega) (k1.trans k2) hy (by omega) (by omega)
end
end Go.Proofs.Ytkbhjejalkbogaa

/- What the laws on trees draw; trees and lists of texts compared; all paths of a tree. -/
set_option linter.unusedVariables false
set_option linter.unusedSimpArgs false
set_option maxRecDepth 20000
namespace Go.Proofs.Ytkbhjejalkbogaa
open Go Go.Av Go.RowKit

abbrev Bytes (w0 : World) (u : Value) (bs : List Nat) : Prop := RSl 1 RU8 (Av.get w0 (fun _ => none)) u bs
theorem Bytes.len {w0 : World} {u : Value} {bs : List Nat} (h : Bytes w0 u bs) {K : Value → Prop} : pLen u K ↔ K (.int .i64 (bs.length : Nat)) := RSl.len h

section
variable {w0 : World} {σ : Vw}

theorem draw_keeps {b : Nat} {s1 s : Vw} (h1 : s1.del b = σ) (k : Keeps (s1.del b) (s.del b)) : Keeps σ s := by rw [h1] at k; exact k.trans del_keeps
/-- Two drawn trees. -/
abbrev OutTT (w0 : World) (σ : Vw) (R : Value → Vw → Prop) : Prop := ∀ es (x : Tr) es' (y : Tr) s, Keeps σ s → RT 16 (Av.get w0 s) es x → szT 16 x ≤ 50000000 → RT 16 (Av.get w0 s) es' y → szT 16 y ≤ 50000000 → R (.tuple ⟨[.agg ⟨es⟩, .agg ⟨es'⟩]⟩) s
theorem spec_DrawDiffWalk {u : Value} {bs : List Nat} (h : Bytes w0 u bs) {R : Value → Vw → Prop} (hR : OutTT w0 σ R) : AC Try.prog w0 n_spec_DrawDiffWalk [u] σ R := by
  refine ac_spec_DrawDiffWalk ?_
  unfold vc_spec_DrawDiffWalk
  refine spec_l1Open h fun b s1 hrd1 hd1 hb1 => ?_
  refine spec_l4Any hrd1 (by omega) fun es x s2 hrd2 k2 hx hxs => ?_
  have hx0 := hx
  obtain ⟨f0, f1, f2, f3, f4, rfl, hp7⟩ := hx.shape
  rw [hp7]
  simp only [cellOf_agg, List.getD_cons_zero, List.getD_cons_succ]
  refine spec_pick (n := 6) hrd2 (by omega) (by omega) fun j s3 hj hrd3 hd3 _ => ?_
  have k3 : Keeps (s2.del b) (s3.del b) := by rw [hd3]; exact Keeps.refl _
  have hcnt : cntT 16 x ≤ 1000000000000 := Nat.le_trans (cnt_le 16 x) (by omega)
  have out : ∀ {es' : List Value} {y : Tr} {s : Vw}, Keeps (s3.del b) (s.del b) → RT 16 (Av.get w0 (s.del b)) es' y → szT 16 y ≤ 50000000 → pVal true 5 (.agg ⟨es'⟩) (R (.tuple (⟨[.agg (⟨[f0, f1, f2, f3, f4]⟩), .agg (⟨[cellOf (.agg ⟨es'⟩) 0, cellOf (.agg ⟨es'⟩) 1, cellOf (.agg ⟨es'⟩) 2, cellOf (.agg ⟨es'⟩) 3, cellOf (.agg ⟨es'⟩) 4]⟩)]⟩)) s) := fun {es' y s} k hy hys => by
    have hy0 := hy
    obtain ⟨g0, g1, g2, g3, g4, rfl, hp8⟩ := hy.shape
    rw [hp8]
    simp only [cellOf_agg, List.getD_cons_zero, List.getD_cons_succ]
    exact hR _ x _ y s (draw_keeps hd1 ((k2.trans k3).trans k)) (mono_rt _ _ _ _ _ ((k3.trans k).trans del_keeps).le hx0) hxs (mono_rt _ _ _ _ _ del_le hy0) hys
  have any : ∀ (s' : Vw) (q : Nat), RD w0 s' b q → q ≤ 3000 → Keeps (s3.del b) (s'.del b) → AC Try.prog w0 n_spec_l4Any [ptr b] s' (fun v12 s13 => pVal true 5 (.agg (⟨[f0, f1, f2, f3, f4]⟩)) (pVal true 5 v12 (R (.tuple (⟨[.agg (⟨[f0, f1, f2, f3, f4]⟩), .agg (⟨[cellOf v12 0, cellOf v12 1, cellOf v12 2, cellOf v12 3, cellOf v12 4]⟩)]⟩)) s13))) := fun s' q r hq k =>
    spec_l4Any r (by omega) fun es' y s4 hrd4 k4 hy hys => by
      rw [hp7]
      exact out (k.trans k4) hy hys
  rw [pBin_eq, pIf_d]
  refine ⟨fun _ => any s3 _ hrd3 (by omega) (Keeps.refl _), fun _ => ?_⟩
  refine spec_TreeOk (mono_rt _ _ _ _ _ (k3.trans del_keeps).le hx0) hcnt (pNotIf.2 ⟨fun _ => any s3 _ hrd3 (by omega) (Keeps.refl _), fun _ => ?_⟩)
  refine spec_pick (n := 9) hrd3 (by omega) (by omega) fun j2 s4 hj2 hrd4 hd4 _ => ?_
  have k4 : Keeps (s3.del b) (s4.del b) := by rw [hd4]; exact Keeps.refl _
  refine spec_l4Calls (N := 16) (S := 50000000) hrd4 (by omega) (by omega) (by omega) (by omega) (mono_rt _ _ _ _ _ (k3.trans k4).le hx0) hxs fun es' y s5 hrd5 k5 hy hys => ?_
  rw [hp7]
  exact out (k4.trans k5) hy hys

/-! ### Compared -/
theorem wtTexts {v v' : Value} {xs ys : List ByteArray} (h : RSl 1 RS (Av.get w0 σ) v xs) (h' : RSl 1 RS (Av.get w0 σ) v' ys) {R : Value → Vw → Prop} (hR : R (.bool (decide (xs = ys))) σ) : AC Try.prog w0 n_laws_wtTexts [v, v'] σ R := by
  refine ac_laws_wtTexts ?_
  unfold vc_laws_wtTexts
  have hl : xs.length ≤ 9223372036854775807 := h.le
  rw [h.len, h'.len, pBin_ne, pIf_d]
  refine ⟨fun hne => ?_, fun heq => ?_⟩
  · have : xs ≠ ys := fun e => hne (by rw [e])
    simpa [this] using hR
  · have hlen : xs.length = ys.length := by omega
    refine loop_rule (m := xs.length) (fun m l s => ∃ j, s = σ ∧ m + j = xs.length ∧ xs.take j = ys.take j ∧ l = [v, v', .bool false, .int .i64 (j : Nat)]) ?_ ⟨0, rfl, by omega, by simp, rfl⟩
    rintro m l s L ⟨j, rfl, hm, ht, rfl⟩ hL
    simp only [vget, List.getD_cons_zero, List.getD_cons_succ]
    rw [h.len, pBin_lt, pIf_d]
    refine ⟨fun hj => ?_, fun hj => ?_⟩
    · have hx := List.getElem?_eq_getElem (show j < xs.length by omega)
      have hy := List.getElem?_eq_getElem (show j < ys.length by omega)
      refine RSl.at1 h hx fun g hg _ => ?_
      refine RSl.at1 h' hy fun g' hg' _ => ?_
      rw [hg, hg', pBin_sne, pIf_d]
      refine ⟨fun hne => ?_, fun heq => ?_⟩
      · have : xs ≠ ys := fun e => by subst e; exact hne rfl
        simpa [this] using hR
      · rw [pBin_add (by omega)]
        refine hL _ _ (m - 1) (by omega) ⟨j + 1, rfl, by omega, ?_, rfl⟩
        rw [List.take_add_one, List.take_add_one, hx, hy, ht, Decidable.not_not.1 heq]
    · have hj' : j = xs.length := by omega
      subst hj'
      rw [List.take_length, hlen, List.take_length] at ht
      subst ht
      simpa using hR

theorem wtTree : ∀ (n m : Nat) {σ : Vw} {es es' : List Value} {x y : Tr} {R : Value → Vw → Prop}, RT n (Av.get w0 σ) es x → RT m (Av.get w0 σ) es' y → R (.bool (decide (x = y))) σ → AC Try.prog w0 n_laws_wtTree [.agg ⟨es⟩, .agg ⟨es'⟩] σ R
  | 0, _, _, _, _, _, _, _, h, _, _ => h.elim
  | _ + 1, 0, _, _, _, _, _, _, _, h, _ => h.elim
  | n + 1, m + 1, σ, es, es', .mk d mo t ns ks, .mk d' mo' t' ns' ks', R, h, h', hR => by
    obtain ⟨u, w, rfl, h2, h3, h4, h5⟩ := h
    obtain ⟨u', w', rfl, h2', h3', h4', h5'⟩ := h'
    refine ac_laws_wtTree ?_
    unfold vc_laws_wtTree
    rw [pVal_5 rfl rfl rfl h4.one h5.one, pVal_5 rfl rfl rfl h4'.one h5'.one]
    simp only [cellOf_agg, List.getD_cons_zero, List.getD_cons_succ]
    have no : ¬ (Tr.mk d mo t ns ks = Tr.mk d' mo' t' ns' ks') → R (.bool false) σ := fun hne => by simpa [hne] using hR
    have eb : ∀ K : Value → Prop, pBin Try.prog 4 .neq (.bool d) (.bool d') K ↔ K (.bool !(d == d')) := fun K => pBin_b (by kernel_rfl) rfl
    rw [eb, pIf_b]
    refine ⟨fun hd => no fun e => by cases e; simp at hd, fun hd => ?_⟩
    have hd : d = d' := by simpa using hd
    subst hd
    rw [pBin_ne, pIf_d]
    refine ⟨fun hd => no fun e => by cases e; exact hd rfl, fun hd => ?_⟩
    have hd := Decidable.not_not.1 hd
    subst hd
    rw [pBin_sne, pIf_d]
    refine ⟨fun hd => no fun e => by cases e; exact hd rfl, fun hd => ?_⟩
    have hd := Decidable.not_not.1 hd
    subst hd
    refine wtTexts h4 h4' ?_
    rw [pUn_not, pIf_b]
    refine ⟨fun hd => no fun e => by cases e; simp at hd, fun hd => ?_⟩
    have hd : ns = ns' := by simpa using hd
    subst hd
    rw [h5.len, h5'.len, pBin_ne, pIf_d]
    refine ⟨fun hd => no fun e => by cases e; exact hd rfl, fun hd => ?_⟩
    have hlen : ks.length = ks'.length := by have := Decidable.not_not.1 hd; omega
    have hl5 := h5.le
    refine loop_rule (m := ks.length) (fun c l s => ∃ j, s = σ ∧ c + j = ks.length ∧ ks.take j = ks'.take j ∧ l = [.bool false, .int .i64 (j : Nat), .bool d, .int .i64 mo, .string t, u, w, .bool d, .int .i64 mo, .string t, u', w']) ?_ ⟨0, rfl, by omega, by simp, rfl⟩
    rintro c l s L ⟨j, rfl, hc, htk, rfl⟩ hL
    simp only [vget, List.getD_cons_zero, List.getD_cons_succ]
    rw [h5.len, pBin_lt, pIf_d]
    refine ⟨fun hj => ?_, fun hj => ?_⟩
    · have hx := List.getElem?_eq_getElem (show j < ks.length by omega)
      have hy := List.getElem?_eq_getElem (show j < ks'.length by omega)
      refine h5.at hx fun g hg => ?_
      refine h5'.at hy fun g' hg' => ?_
      refine wtTree n m hg hg' ?_
      rw [pUn_not, pIf_b]
      refine ⟨fun hne => no fun e => ?_, fun heq => ?_⟩
      · cases e; simp at hne
      · have heq : ks[j]'(by omega) = ks'[j]'(by omega) := by simpa using heq
        rw [pBin_add (by omega)]
        refine hL _ _ (c - 1) (by omega) ⟨j + 1, rfl, by omega, ?_, by simp⟩
        rw [List.take_add_one, List.take_add_one, hx, hy, htk, heq]
    · have hj' : j = ks.length := by omega
      subst hj'
      rw [List.take_length, hlen, List.take_length] at htk
      subst htk
      simpa using hR

/-! ### All paths -/
end
end Go.Proofs.Ytkbhjejalkbogaa

/- How a code is opened that came with the call. -/
set_option linter.unusedVariables false
set_option linter.unusedSimpArgs false
namespace Go.Proofs.Ytkbhjejalkbogaa
open Go Go.Av Go.RowKit

theorem open_byte {H : Type} {enc : TypeId × Value → H} {W : World} {spare : Nat → Bool} (fuel : Nat) (es : List Value) (y : DataW H × List MemPlace) (h : DataW.trod enc Try.prog W 0 spare true fuel t_uint8 es = some y) (hl : es.length = 1) : ∃ x, RU8 (Av.get W σ0) es x := by
  have hT : Try.prog.underlying t_uint8 = some (.int .u8) := by kernel_rfl
  obtain ⟨n, rfl, _, hw⟩ := DataW.trod_int hT h
  have e1 : IntKind.u8.min = 0 := by decide
  have e2 : IntKind.u8.max = 255 := by decide
  simp only [Lit.wf, Bool.and_eq_true, decide_eq_true_eq, e1, e2] at hw
  exact ⟨n.toNat, by rw [Int.toNat_of_nonneg hw.1], by omega⟩
end Go.Proofs.Ytkbhjejalkbogaa

/- 'DiffWalk': two trees in step, by either hand; the law. -/
set_option linter.unusedVariables false
set_option linter.unusedSimpArgs false
set_option maxRecDepth 20000
namespace Go.Proofs.Ytkbhjejalkbogaa
open Go Go.Av

noncomputable def diffX (n m : Nat) (x y : Tr) : List En := if treeOk n x = true ∧ treeOk m y = true then walkE 5 [] (some x) (some y) else []
/-- What a sound tree is. -/
theorem ok_fine {n : Nat} {x : Tr} (h : treeOk n x = true) : (∀ rd es, RT n rd es x → RT 5 rd es x) ∧ shortT 5 x ∧ cntT 5 x ≤ 30 ∧ ascT 5 x := by
  have h0 := h
  simp only [treeOk, Bool.and_eq_true, decide_eq_true_eq] at h
  obtain ⟨h1, h2, h3⟩ := sound_down5 5 n x 0 h.2.1 (by omega)
  exact ⟨h1, h2, by omega, sound_asc 5 n x 0 h.2.1⟩

section
variable {w0 : World} {σ : Vw}

theorem spec_DiffWalk {n m : Nat} {es es' : List Value} {x y : Tr} (h : RT n (Av.get w0 σ) es x) (h' : RT m (Av.get w0 σ) es' y) (hb : cntT n x ≤ 1000000000000) (hb' : cntT m y ≤ 1000000000000) {R : Value → Vw → Prop}
    (hR : ∀ v F σ', Keeps σ σ' → OSl w0 5 (OEn w0) σ' F v (diffX n m x y) → (∀ i, i ∈ F → σ i = none) → R v σ') : AC Try.prog w0 n_spec_DiffWalk [.agg ⟨es⟩, .agg ⟨es'⟩] σ R := by
  have h0 := h
  have h0' := h'
  obtain ⟨e0, e1, e2, e3, e4, rfl, _, hpv⟩ := RT.five h
  obtain ⟨e0', e1', e2', e3', e4', rfl, _, hpv'⟩ := RT.five h'
  refine ac_spec_DiffWalk ?_
  unfold vc_spec_DiffWalk
  rw [hpv, hpv']
  simp only [cellOf_agg, List.getD_cons_zero, List.getD_cons_succ]
  have no : ¬ (treeOk n x = true ∧ treeOk m y = true) → ∀ b, w0.heap.size ≤ b → σ b = none → R (.slice (some ⟨b, 0, none⟩) 0 0) (σ.put b ⟨t_impl_Entry, [], 0, (0, 0)⟩) := fun hno b hb1 hb2 => by
    refine hR _ [b] _ (Keeps.put hb2) ?_ fun i hi => by rw [List.mem_singleton.1 hi]; exact hb2
    rw [diffX, if_neg hno]
    exact (OAcc.new (O := OEn w0) hb1).osl
  refine spec_TreeOk h0 hb (pNotIf.2 ⟨fun hno => no (by rw [hno]; simp), fun hok => ?_⟩)
  refine spec_TreeOk h0' hb' (pNotIf.2 ⟨fun hno => no (by rw [hno]; simp), fun hok' => ?_⟩)
  obtain ⟨d1, x1, c1, _⟩ := ok_fine hok
  obtain ⟨d2, x2, c2, _⟩ := ok_fine hok'
  intro b hb1 hb2
  have k1 : Keeps σ (σ.put b ⟨t_string, [], 0, (0, 0)⟩) := Keeps.put hb2
  have hp : RSl 1 RS (Av.get w0 (σ.put b ⟨t_string, [], 0, (0, 0)⟩)) (.slice (some ⟨b, 0, none⟩) 0 0) [] := (OAcc.new (w0 := w0) (σ := σ) (ety := t_string) (n := 1) (O := OStr) hb1).osl.rel (ok_str w0)
  refine spec_walk 5 hp (mono_rt 5 _ _ _ _ k1.le (d1 _ _ h0)) (mono_rt 5 _ _ _ _ k1.le (d2 _ _ h0')) x1 x2 (by omega) (by omega) (by simp [sumS]) fun v G s2 k2 o2 f2 => ?_
  refine hR v G s2 (k1.trans k2) ?_ fun i hi => none_old k1 (f2 i hi)
  rw [diffX, if_pos ⟨hok, hok'⟩]
  exact o2.osl

theorem impl_DiffWalk {n m : Nat} {es es' : List Value} {x y : Tr} (h : RT n (Av.get w0 σ) es x) (h' : RT m (Av.get w0 σ) es' y) (hb : cntT n x ≤ 1000000000000) (hb' : cntT m y ≤ 1000000000000) {R : Value → Vw → Prop}
    (hR : ∀ v F σ', Keeps σ σ' → OSl w0 5 (OEn w0) σ' F v (diffX n m x y) → (∀ i, i ∈ F → σ i = none) → R v σ') : AC Try.prog w0 n_impl_DiffWalk [.agg ⟨es⟩, .agg ⟨es'⟩] σ R := by
  have h0 := h
  have h0' := h'
  obtain ⟨e0, e1, e2, e3, e4, rfl, _, hpv⟩ := RT.five h
  obtain ⟨e0', e1', e2', e3', e4', rfl, _, hpv'⟩ := RT.five h'
  refine ac_impl_DiffWalk ?_
  unfold vc_impl_DiffWalk
  rw [hpv]
  simp only [cellOf_agg, List.getD_cons_zero, List.getD_cons_succ]
  intro a ha1 ha2
  have k1 : Keeps σ (σ.put a ⟨t_impl_Tree, [e0, e1, e2, e3, e4], 5, (0, 0)⟩) := Keeps.put ha2
  have p1 := PT.new (ety := t_impl_Tree) (c := 5) h0 ha1 ha2
  rw [hpv']
  intro b hb1 hb2
  have k2 := Keeps.put (r := ⟨t_impl_Tree, [e0', e1', e2', e3', e4'], 5, (0, 0)⟩) hb2
  have p2 := PT.new (ety := t_impl_Tree) (c := 5) (mono_rt _ _ _ _ _ k1.le h0') hb1 hb2
  have p1' := p1.mono k2.le
  have K2 := k1.trans k2
  generalize hs : Vw.put _ b _ = s at k2 p2 p1' K2
  clear hs
  have no : ¬ (treeOk n x = true ∧ treeOk m y = true) → ∀ c, w0.heap.size ≤ c → s c = none → R (.slice (some ⟨c, 0, none⟩) 0 0) (s.put c ⟨t_impl_Entry, [], 0, (0, 0)⟩) := fun hno c hc1 hc2 => by
    refine hR _ [c] _ (K2.trans (Keeps.put hc2)) ?_ fun i hi => by rw [List.mem_singleton.1 hi]; exact none_old K2 hc2
    rw [diffX, if_neg hno]
    exact (OAcc.new (O := OEn w0) hc1).osl
  refine PT.load p1' fun g hg => ?_
  refine impl_TreeOk hg hb (pNotIf.2 ⟨fun hno => no (by rw [hno]; simp), fun hok => ?_⟩)
  refine PT.load p2 fun g' hg' => ?_
  refine impl_TreeOk hg' hb' (pNotIf.2 ⟨fun hno => no (by rw [hno]; simp), fun hok' => ?_⟩)
  obtain ⟨d1, x1, c1, a1⟩ := ok_fine hok
  obtain ⟨d2, x2, c2, a2⟩ := ok_fine hok'
  have down : ∀ {k : Nat} {p : Value} {z : Tr}, (∀ rd es, RT k rd es z → RT 5 rd es z) → PT k (Av.get w0 s) p z → PT 5 (Av.get w0 s) p z := fun {k p z} hd hp => by
    obtain ⟨ad, es, q1, q2, q3, q4⟩ := hp
    exact ⟨ad, es, q1, q2, q3, hd _ _ q4⟩
  refine impl_walk 5 (ps := []) (by omega) (nil_in (G := []) s (KeepsBut.refl _ _)) (a := some x) (b := some y) (down d1 p1') (down d2 p2) (fun z hz => by cases hz; exact ⟨x1, by omega, a1⟩) (fun z hz => by cases hz; exact ⟨x2, by omega, a2⟩) (fun h => by cases h.1) (by simp [sumS]) fun v G s2 k3 o2 f2 => ?_
  refine hR v G s2 (K2.trans k3) ?_ fun i hi => none_old K2 (f2 i hi)
  rw [diffX, if_pos ⟨hok, hok'⟩]
  exact o2.osl

end
end Go.Proofs.Ytkbhjejalkbogaa

/- Marks put in their order; the deepest of them made coarser: the pure part of 'TrailAdd'. -/
set_option linter.unusedVariables false
set_option linter.unusedSimpArgs false
namespace Go.Proofs.Ytkbhjejalkbogaa
open Go Go.Av

/-! ### The order of paths -/
theorem lexLt_trans : ∀ {a b c : List ByteArray}, lexLt a b = true → lexLt b c = true → lexLt a c = true
  | _, [], _, h, _ => by simp [lexLt] at h
  | _, _ :: _, [], _, h => by simp [lexLt] at h
  | [], _ :: _, _ :: _, _, _ => by simp [lexLt]
  | x :: a, y :: b, z :: c, h, h' => by
    simp only [lexLt] at h h' ⊢
    by_cases e : x = y
    · subst e
      rw [if_pos rfl] at h
      by_cases e2 : x = z
      · subst e2; rw [if_pos rfl] at h' ⊢; exact lexLt_trans h h'
      · rw [if_neg e2] at h' ⊢; exact h'
    · rw [if_neg e] at h
      by_cases e2 : y = z
      · subst e2; rw [if_neg e]; exact h
      · rw [if_neg e2] at h'
        have h3 := strLt_trans h h'
        rw [if_neg (strLt_ne h3)]; exact h3
theorem lexLt_total : ∀ {a b : List ByteArray}, lexLt a b = false → lexLt b a = false → a = b
  | [], [], _, _ => rfl
  | [], _ :: _, h, _ => by simp [lexLt] at h
  | _ :: _, [], _, h => by simp [lexLt] at h
  | x :: a, y :: b, h, h' => by
    simp only [lexLt] at h h'
    by_cases e : x = y
    · subst e
      rw [if_pos rfl] at h h'
      rw [lexLt_total h h']
    · rw [if_neg e] at h
      rw [if_neg fun h => e h.symm] at h'
      exact absurd (strLt_total h h') e

/-! ### What lies within what -/
theorem within_iff {b a : List ByteArray} : within b a = true ↔ a <+: b := by
  unfold within
  rw [decide_eq_true_iff, List.prefix_iff_eq_take]
  constructor
  · rintro ⟨_, h⟩; exact h.symm
  · intro h; exact ⟨by have := congrArg List.length h; rw [List.length_take] at this; omega, h.symm⟩
theorem within_self (a : List ByteArray) : within a a = true := within_iff.2 (List.prefix_refl a)
/-! ### A mark put in -/
def insF (m : Mk) : List Mk → List Mk
  | [] => [m]
  | x :: r => if lexLt m.1 x.1 = true then m :: x :: r else x :: insF m r
def keepM (m x : Mk) : Bool := !(m.2 && within x.1 m.1)
def markedB (l : List Mk) (p : List ByteArray) : Bool := underB l p || l.any fun x => decide (x.1 = p)
def putM (l : List Mk) (m : Mk) : List Mk := if (underB l m.1 || (!m.2 && markedB l m.1)) = true then l else insF m (l.filter (keepM m))
def AscM (l : List Mk) : Prop := l.Pairwise fun a b => lexLt a.1 b.1 = true
def NoUn (l : List Mk) : Prop := ∀ x, x ∈ l → ∀ y, y ∈ l → x.2 = true → within y.1 x.1 = true → x = y
theorem ins_mem {m x : Mk} : ∀ {l : List Mk}, x ∈ insF m l ↔ x = m ∨ x ∈ l
  | [] => by simp [insF]
  | y :: r => by
    simp only [insF]
    split
    · simp
    · simp only [List.mem_cons, ins_mem (l := r)]
      constructor
      · rintro (h | h | h)
        · exact .inr (.inl h)
        · exact .inl h
        · exact .inr (.inr h)
      · rintro (h | h | h)
        · exact .inr (.inl h)
        · exact .inl h
        · exact .inr (.inr h)
theorem ins_asc {m : Mk} : ∀ {l : List Mk}, AscM l → (∀ x, x ∈ l → x.1 ≠ m.1) → AscM (insF m l)
  | [], _, _ => by simp [insF, AscM]
  | y :: r, h, hn => by
    have h1 := List.pairwise_cons.1 h
    simp only [insF]
    by_cases c : lexLt m.1 y.1 = true
    · rw [if_pos c]
      refine List.pairwise_cons.2 ⟨fun x hx => ?_, h⟩
      rcases List.mem_cons.1 hx with e | e
      · rw [e]; exact c
      · exact lexLt_trans c (h1.1 x e)
    · rw [if_neg c]
      refine List.pairwise_cons.2 ⟨fun x hx => ?_, ins_asc h1.2 fun x hx => hn x (List.mem_cons_of_mem _ hx)⟩
      rcases ins_mem.1 hx with e | e
      · rw [e]
        cases c2 : lexLt y.1 m.1 with
        | true => rfl
        | false => exact absurd (lexLt_total c2 (by simpa using c)) (hn y List.mem_cons_self)
      · exact h1.1 x e
theorem keep_sub {m : Mk} {l : List Mk} : ∀ x, x ∈ l.filter (keepM m) → x ∈ l := fun x hx => (List.mem_filter.1 hx).1
/-- What a trail keeps. -/
def TrP (l : List Mk) : Prop := AscM l ∧ NoUn l
theorem put_un {l : List Mk} {m : Mk} (h : ¬ (underB l m.1 || (!m.2 && markedB l m.1)) = true) : underB l m.1 = false ∧ (m.2 = false → ∀ x, x ∈ l → x.1 ≠ m.1) := by
  simp only [Bool.or_eq_true, not_or] at h
  refine ⟨by simpa using h.1, fun hm x hx e => h.2 ?_⟩
  simp only [hm, Bool.not_false, Bool.true_and, markedB, Bool.or_eq_true, List.any_eq_true]
  exact .inr ⟨x, hx, by simp [e]⟩
theorem TrP.put {l : List Mk} {m : Mk} (h : TrP l) : TrP (putM l m) := by
  unfold putM
  split
  · exact h
  · rename_i hc
    obtain ⟨hu, hs⟩ := put_un hc
    refine ⟨ins_asc (h.1.sublist List.filter_sublist) fun x hx => ?_, fun x hx y hy h2 hw => ?_⟩
    · obtain ⟨x1, x2⟩ := List.mem_filter.1 hx
      cases hm : m.2 with
      | false => exact hs hm x x1
      | true =>
        intro e
        simp [keepM, hm, e, within_self] at x2
    · rcases ins_mem.1 hx with e | e <;> rcases ins_mem.1 hy with e' | e'
      · rw [e, e']
      · exfalso
        rw [e] at h2 hw
        have := (List.mem_filter.1 e').2
        simp [keepM, h2, hw] at this
      · exfalso
        rw [e'] at hw
        obtain ⟨j, hj⟩ := List.getElem?_of_mem (keep_sub x e)
        rw [under_hit hj h2 hw] at hu; cases hu
      · exact h.2 x (keep_sub x e) y (keep_sub y e') h2 hw
/-! ### The deepest of the marks -/
def lenAt (l : List Mk) (j : Nat) : Nat := match l[j]? with
  | some x => x.1.length
  | none => 0
def bestTo (l : List Mk) : Nat → Nat
  | 0 => 0
  | k + 1 => if lenAt l (bestTo l k) ≤ lenAt l k then k else bestTo l k
theorem best_lt {l : List Mk} (h : l ≠ []) : ∀ {k : Nat}, k ≤ l.length → bestTo l k < l.length
  | 0, _ => by have := List.length_pos_iff.2 h; simpa [bestTo] using this
  | k + 1, hk => by
    simp only [bestTo]
    split
    · omega
    · exact best_lt h (by omega)
def bestM (l : List Mk) : Mk := (l[bestTo l l.length]?).getD ([], false)
theorem best_at {l : List Mk} (h : l ≠ []) : l[bestTo l l.length]? = some (bestM l) := by
  have := best_lt h (Nat.le_refl _)
  rw [bestM, List.getElem?_eq_getElem this]; rfl
def upM (x : Mk) : Mk := (x.1.take (x.1.length - 1), true)
def coarseM (l : List Mk) : List Mk := putM l (upM (bestM l))
def delBest (l : List Mk) : List Mk := l.take (bestTo l l.length) ++ l.drop (bestTo l l.length + 1)
theorem del_split {l : List Mk} (h : l ≠ []) : l = l.take (bestTo l l.length) ++ bestM l :: l.drop (bestTo l l.length + 1) := by
  have h1 := best_at h
  obtain ⟨h2, h3⟩ := List.getElem?_eq_some_iff.1 h1
  have := List.take_append_drop (bestTo l l.length) l
  rw [List.drop_eq_getElem_cons h2, h3] at this
  exact this.symm
theorem del_mem {l : List Mk} : ∀ x, x ∈ delBest l → x ∈ l := fun x hx => by
  rcases List.mem_append.1 hx with h | h
  · exact List.mem_of_mem_take h
  · exact List.mem_of_mem_drop h
theorem TrP.del {l : List Mk} (h : TrP l) (hne : l ≠ []) : TrP (delBest l) := by
  refine ⟨h.1.sublist ?_, fun x hx y hy => h.2 x (del_mem x hx) y (del_mem y hy)⟩
  conv => rhs; rw [del_split hne]
  exact List.Sublist.append (List.Sublist.refl _) (List.sublist_cons_self _ _)
/-- Coarser and coarser, till it is not too long. -/
inductive Lp : List Mk → List Mk → Prop
  | stop {l : List Mk} (h : l.length ≤ 6) : Lp l l
  | step {l r : List Mk} (h : 6 < l.length) (h' : Lp (coarseM l) r) : Lp l r
end Go.Proofs.Ytkbhjejalkbogaa

/- Marks: what is under, what is marked, by either hand; the sort of marks of which only the last stands wrong. -/
set_option linter.unusedVariables false
set_option linter.unusedSimpArgs false
namespace Go.Proofs.Ytkbhjejalkbogaa
open Go Go.Av

section
variable {w0 : World} {σ : Vw}

/-! ### The sort -/
end
end Go.Proofs.Ytkbhjejalkbogaa

/- How many paths there are in either of two parts; whether all that differs is marked; what a trail leads to: the pure part. -/
set_option linter.unusedVariables false
set_option linter.unusedSimpArgs false
set_option maxRecDepth 20000
namespace Go.Proofs.Ytkbhjejalkbogaa
open Go Go.Av

/-- How many paths there are in either of two parts, of which either may not be there. -/
noncomputable def unT : Nat → Option Tr → Option Tr → Nat
  | 0, _, _ => 0
  | _ + 1, none, none => 0
  | n + 1, none, some b => cntT (n + 1) b + 1
  | n + 1, some a, none => cntT (n + 1) a + 1
  | n + 1, some a, some b => 1 + sumBy (fun z : Pr => unT n z.2.1 z.2.2) (mrgK (partsOf a) (partsOf b))
/-- What is asked of a part. -/
def fineT (n : Nat) (x : Tr) : Prop := shortT n x ∧ cntT n x ≤ 100000 ∧ ascT n x
theorem fine_kid {n : Nat} {x k : Tr} (h : fineT (n + 1) x) (hk : k ∈ kidsOf x) : fineT n k := by
  obtain ⟨h1, h2, h3⟩ := h
  obtain ⟨d, m, t, ns, ks⟩ := x
  have hk : k ∈ ks := hk
  have e1 : cntT (n + 1) (.mk d m t ns ks) = ks.length + sumBy (cntT n) ks := rfl
  have := sumBy_mem (f := cntT n) hk
  exact ⟨h1.2.2.2.2 k hk, by omega, h3.2 k hk⟩
def leadsB (ms : List Mk) (ps : List ByteArray) : Bool := ms.any fun m => within m.1 ps
/-- At how many paths one looks. -/
noncomputable def lookN : Nat → List Mk → List ByteArray → Option Tr → Option Tr → Nat
  | 0, _, _, _, _ => 0
  | _ + 1, _, _, none, none => 0
  | n + 1, _, _, none, some b => cntT (n + 1) b + 1
  | _ + 1, _, _, some _, none => 1
  | n + 1, ms, ps, some a, some b =>
    if isDir a = isDir b then
      if underB ms ps = true then unT (n + 1) (some a) (some b)
      else 1 + sumBy (fun z : Pr => if leadsB ms (ps ++ [z.1]) = true then lookN n ms (ps ++ [z.1]) z.2.1 z.2.2 else 0) (mrgK (partsOf a) (partsOf b))
    else cntT (n + 1) b + 1

end Go.Proofs.Ytkbhjejalkbogaa

/- The names of either of two parts, put in one by one; how many paths there are in either: by either hand. -/
set_option linter.unusedVariables false
set_option linter.unusedSimpArgs false
set_option maxRecDepth 20000
namespace Go.Proofs.Ytkbhjejalkbogaa
open Go Go.Av

theorem fine_asc {n : Nat} {x : Tr} (h : fineT (n + 1) x) : AscS (namesOf x) := by
  obtain ⟨d, m, t, ns, ks⟩ := x
  exact h.2.2.1
theorem mrg_kids {n m : Nat} {x y : Tr} (hx : fineT (n + 1) x) (hy : fineT (m + 1) y) : mrgK (partsOf x) (partsOf y) = (namesU (namesOf x ++ namesOf y)).map fun nm => ((nm, kidT x nm, kidT y nm) : Pr) := by
  rw [← mrgK_names (xa := partsOf x) (xb := partsOf y) (by rw [part_names hx.1]; exact fine_asc hx) (by rw [part_names hy.1]; exact fine_asc hy) (namesU_asc (namesOf x ++ namesOf y)) (fun z => by rw [namesU_mem, part_names hx.1, part_names hy.1, List.mem_append])]
  refine List.map_congr_left fun nm _ => ?_
  rw [kid_lk hx.1, kid_lk hy.1]
section
variable {w0 : World} {σ : Vw}

theorem kid_level {n : Nat} {x : Tr} (h : fineT (n + 1) x) {nm : ByteArray} (hm : nm ∈ namesOf x) : n ≠ 0 := fun e => by
  subst e
  have hne := kid_there h.1 hm
  cases hk : kidT x nm with
  | none => exact hne hk
  | some k => exact (fine_kid h (kid_mem hk)).1

end
end Go.Proofs.Ytkbhjejalkbogaa

/- Marks put in and made coarser by the reference's hand. -/
set_option linter.unusedVariables false
set_option linter.unusedSimpArgs false
namespace Go.Proofs.Ytkbhjejalkbogaa
open Go Go.Av

section
variable {w0 : World} {σ : Vw}

theorem rebase {v : Value} {ms : List Mk} (h : RSl 2 RMk (Av.get w0 σ) v ms) : RSl 2 (RB RMk (Av.get w0 σ)) (Av.get w0 σ) v ms := h.imp fun es x hx => hx

end
end Go.Proofs.Ytkbhjejalkbogaa

/- The trail to which a mark is added, by the reference's hand. -/
set_option linter.unusedVariables false
set_option linter.unusedSimpArgs false
namespace Go.Proofs.Ytkbhjejalkbogaa
open Go Go.Av

section
variable {w0 : World} {σ : Vw}

end
end Go.Proofs.Ytkbhjejalkbogaa

/- The trail to which a mark is added, by the program's hand. -/
set_option linter.unusedVariables false
set_option linter.unusedSimpArgs false
namespace Go.Proofs.Ytkbhjejalkbogaa
open Go Go.Av

section
variable {w0 : World} {σ : Vw}

end
end Go.Proofs.Ytkbhjejalkbogaa

/- The law 'TrailAdd', of the functions alone. -/
set_option linter.unusedVariables false
set_option linter.unusedSimpArgs false
namespace Go.Proofs.Ytkbhjejalkbogaa
open Go Go.Av

section
variable {w0 : World} {σ : Vw}

end
end Go.Proofs.Ytkbhjejalkbogaa

/- How many paths there are in either of two parts, by the program's hand; 'TrailBelow' and its law. -/
set_option linter.unusedVariables false
set_option linter.unusedSimpArgs false
set_option maxRecDepth 20000
namespace Go.Proofs.Ytkbhjejalkbogaa
open Go Go.Av

section
variable {w0 : World} {σ : Vw}

theorem ok_fineT {n : Nat} {x : Tr} (h : treeOk n x = true) : (∀ rd es, RT n rd es x → RT 5 rd es x) ∧ fineT 5 x ∧ cntT 5 x ≤ 30 := by
  obtain ⟨d1, x1, c1, a1⟩ := ok_fine h
  exact ⟨d1, ⟨x1, by omega, a1⟩, c1⟩

end
end Go.Proofs.Ytkbhjejalkbogaa

/- Entries compared; where there is no difference; the law 'DiffNone', of the functions alone. -/
set_option linter.unusedVariables false
set_option linter.unusedSimpArgs false
set_option maxRecDepth 20000
namespace Go.Proofs.Ytkbhjejalkbogaa
open Go Go.Av Go.RowKit

theorem zip_snd : ∀ {ns : List ByteArray} {ks : List Tr}, ns.length = ks.length → (ns.zip ks).map (·.2) = ks
  | [], [], _ => rfl
  | [], _ :: _, h => by simp at h
  | _ :: _, [], h => by simp at h
  | n :: ns, k :: ks, h => by rw [List.zip_cons_cons, List.map_cons, zip_snd (by simpa using h)]
theorem kids_of {n : Nat} {x : Tr} (h : fineT (n + 1) x) : kidsOf x = (namesOf x).map fun nm => (kidT x nm).getD zeroT := by
  have h1 : (partsOf x).map (·.1) = namesOf x := part_names h.1
  have h2 : (partsOf x).map (·.2) = kidsOf x := by
    obtain ⟨d, m, t, ns, ks⟩ := x
    exact zip_snd h.1.2.2.1
  rw [← h1, ← h2, List.map_map]
  refine List.map_congr_left fun z hz => ?_
  simp only [Function.comp_apply]
  rw [kid_lk h.1, lk_self (by rw [h1]; exact fine_asc h) z hz]; rfl
theorem walk_same : ∀ (n : Nat) (ps : List ByteArray) (x : Tr), fineT n x → walkE n ps (some x) (some x) = []
  | 0, _, _, h => h.1.elim
  | n + 1, ps, x, h => by
    simp only [walkE]
    rw [if_pos trivial, mrg_kids h h, List.map_map]
    have hp : partE ps x x = [] := by simp [partE]
    rw [hp, List.nil_append]
    refine List.flatten_eq_nil_iff.2 fun l hl => ?_
    obtain ⟨nm, hnm, rfl⟩ := List.mem_map.1 hl
    simp only [Function.comp_apply]
    cases hk : kidT x nm with
    | none => cases n <;> rfl
    | some k => exact walk_same n _ k (fine_kid h (kid_mem hk))
theorem walk_nil : ∀ (n : Nat) (ps : List ByteArray) (x y : Tr), fineT n x → fineT n y → walkE n ps (some x) (some y) = [] → x = y
  | 0, _, _, _, h, _, _ => h.1.elim
  | n + 1, ps, x, y, hx, hy, h => by
    simp only [walkE] at h
    split at h
    · rename_i hd
      obtain ⟨h1, h2⟩ := List.append_eq_nil_iff.1 h
      rw [mrg_kids hx hy, List.map_map] at h2
      have h3 := List.flatten_eq_nil_iff.1 h2
      have hall : ∀ nm, nm ∈ namesOf x ∨ nm ∈ namesOf y → walkE n (ps ++ [nm]) (kidT x nm) (kidT y nm) = [] := fun nm hnm => h3 _ (List.mem_map.2 ⟨nm, by rw [namesU_mem, List.mem_append]; exact hnm, rfl⟩)
      have hn0 : ∀ nm, nm ∈ namesOf x ∨ nm ∈ namesOf y → n ≠ 0 := fun nm hnm => by
        rcases hnm with hm | hm
        · exact kid_level hx hm
        · exact kid_level hy hm
      -- in both, and the same
      have both : ∀ nm, nm ∈ namesOf x ∨ nm ∈ namesOf y → ∃ k, kidT x nm = some k ∧ kidT y nm = some k := fun nm hnm => by
        have hw := hall nm hnm
        obtain ⟨n', rfl⟩ := Nat.exists_eq_succ_of_ne_zero (hn0 nm hnm)
        cases hk : kidT x nm with
        | none =>
          cases hk' : kidT y nm with
          | none =>
            rcases hnm with hm | hm
            · exact absurd hk (kid_there hx.1 hm)
            · exact absurd hk' (kid_there hy.1 hm)
          | some k' =>
            rw [hk, hk'] at hw
            obtain ⟨d, m, t, ns, ks⟩ := k'
            simp only [walkE] at hw
            rw [linT_step] at hw; cases hw
        | some k =>
          cases hk' : kidT y nm with
          | none => rw [hk, hk'] at hw; simp only [walkE] at hw; cases hw
          | some k' =>
            rw [hk, hk'] at hw
            exact ⟨k, rfl, by rw [walk_nil (n' + 1) _ k k' (fine_kid hx (kid_mem hk)) (fine_kid hy (kid_mem hk')) hw]⟩
      have hin : ∀ {n : Nat} {z : Tr} {nm : ByteArray} {k : Tr}, fineT (n + 1) z → kidT z nm = some k → nm ∈ namesOf z := fun {n z nm k} hz hk => by
        rw [kid_lk hz.1] at hk
        by_cases hc : nm ∈ (partsOf z).map (·.1)
        · rw [part_names hz.1] at hc; exact hc
        · rw [lk_none fun y hy e => hc (by rw [← e]; exact hy)] at hk; cases hk
      have hns : namesOf x = namesOf y := asc_unique (fine_asc hx) (fine_asc hy) fun nm => ⟨fun hm => by
        obtain ⟨k, _, e⟩ := both nm (.inl hm); exact hin hy e, fun hm => by
        obtain ⟨k, e, _⟩ := both nm (.inr hm); exact hin hx e⟩
      have hks : kidsOf x = kidsOf y := by
        rw [kids_of hx, kids_of hy, ← hns]
        refine List.map_congr_left fun nm hm => ?_
        obtain ⟨k, e1, e2⟩ := both nm (.inl hm)
        rw [e1, e2]
      have hpe : modeOf x = modeOf y ∧ dataOf x = dataOf y := by
        unfold partE at h1
        obtain ⟨q1, q2⟩ := List.append_eq_nil_iff.1 h1
        refine ⟨?_, ?_⟩
        · by_cases e : modeOf x = modeOf y
          · exact e
          · rw [if_neg e] at q1; cases q1
        · by_cases e : dataOf x = dataOf y
          · exact e
          · rw [if_neg e] at q2; cases q2
      obtain ⟨d, m, t, ns, ks⟩ := x
      obtain ⟨d', m', t', ns', ks'⟩ := y
      have a1 : d = d' := hd
      have a2 : m = m' := hpe.1
      have a3 : t = t' := hpe.2
      have a4 : ns = ns' := hns
      have a5 : ks = ks' := hks
      rw [a1, a2, a3, a4, a5]
    · cases h
theorem diff_nil {n m : Nat} {x y : Tr} (hx : treeOk n x = true) (hy : treeOk m y = true) : diffX n m x y = [] ↔ x = y := by
  obtain ⟨_, fx, _⟩ := ok_fineT hx
  obtain ⟨_, fy, _⟩ := ok_fineT hy
  rw [diffX, if_pos ⟨hx, hy⟩]
  refine ⟨walk_nil 5 [] x y fx fy, fun e => ?_⟩
  subst e
  exact walk_same 5 [] x fx

section
variable {w0 : World} {σ : Vw}

theorem wtEntries {v v' : Value} {xs ys : List En} (h : RSl 5 REn (Av.get w0 σ) v xs) (h' : RSl 5 REn (Av.get w0 σ) v' ys) {R : Value → Vw → Prop} (hR : R (.bool (decide (xs = ys))) σ) : AC Try.prog w0 n_laws_wtEntries [v, v'] σ R := by
  refine ac_laws_wtEntries ?_
  unfold vc_laws_wtEntries
  have hl : xs.length ≤ 9223372036854775807 := h.le
  rw [h.len, h'.len, pBin_ne, pIf_d]
  refine ⟨fun hne => ?_, fun heq => ?_⟩
  · have : xs ≠ ys := fun e => hne (by rw [e])
    simpa [this] using hR
  have hlen : xs.length = ys.length := by omega
  refine loop_rule (m := xs.length) (fun m l s => ∃ j, s = σ ∧ m + j = xs.length ∧ xs.take j = ys.take j ∧ l = [v, v', .bool false, .int .i64 (j : Nat)]) ?_ ⟨0, rfl, by omega, by simp, rfl⟩
  rintro m l s L ⟨j, rfl, hm, ht, rfl⟩ hL
  simp only [vget, List.getD_cons_zero, List.getD_cons_succ]
  rw [h.len, pBin_lt, pIf_d]
  refine ⟨fun hj => ?_, fun hj => ?_⟩
  · have hx := List.getElem?_eq_getElem (show j < xs.length by omega)
    have hy := List.getElem?_eq_getElem (show j < ys.length by omega)
    generalize hxe : xs[j]'(by omega) = x at hx
    generalize hye : ys[j]'(by omega) = y at hy
    have no : x ≠ y → R (.bool false) s := fun hne => by
      have : xs ≠ ys := fun e => hne (by rw [← hxe, ← hye]; simp [e])
      simpa [this] using hR
    refine RSl.atf h hx 0 (by omega) fun es g r q => ?_
    obtain ⟨u, rfl, ru, _⟩ := r
    simp only [List.getElem?_cons_zero, Option.some.injEq] at q
    refine RSl.atf h' hy 0 (by omega) fun es' g' r' q' => ?_
    obtain ⟨w, rfl, rw', _⟩ := r'
    simp only [List.getElem?_cons_zero, Option.some.injEq] at q'
    rw [← q, ← q']
    refine wtTexts ru rw' ?_
    rw [pUn_not, pIf_b]
    refine ⟨fun hne => no fun e => (by subst e; simp at hne), fun e0 => ?_⟩
    have e0 : x.1 = y.1 := by simpa using e0
    refine RSl.atf h hx 1 (by omega) fun es g r q => ?_
    obtain ⟨u, rfl, _⟩ := r
    simp only [List.getElem?_cons_zero, List.getElem?_cons_succ, Option.some.injEq] at q
    refine RSl.atf h' hy 1 (by omega) fun es' g' r' q' => ?_
    obtain ⟨w, rfl, _⟩ := r'
    simp only [List.getElem?_cons_zero, List.getElem?_cons_succ, Option.some.injEq] at q'
    rw [← q, ← q', pBin_ne, pIf_d]
    refine ⟨fun hne => no fun e => hne (by rw [e]), fun e1 => ?_⟩
    have e1 := Decidable.not_not.1 e1
    refine RSl.atf h hx 2 (by omega) fun es g r q => ?_
    obtain ⟨u, rfl, _⟩ := r
    simp only [List.getElem?_cons_zero, List.getElem?_cons_succ, Option.some.injEq] at q
    refine RSl.atf h' hy 2 (by omega) fun es' g' r' q' => ?_
    obtain ⟨w, rfl, _⟩ := r'
    simp only [List.getElem?_cons_zero, List.getElem?_cons_succ, Option.some.injEq] at q'
    have eb : ∀ (p q : Bool) (K : Value → Prop), pBin Try.prog 4 .neq (.bool p) (.bool q) K ↔ K (.bool !(p == q)) := fun p q K => pBin_b (by kernel_rfl) rfl
    rw [← q, ← q', eb, pIf_b]
    refine ⟨fun hne => no fun e => (by subst e; simp at hne), fun e2 => ?_⟩
    have e2 : x.2.2.1 = y.2.2.1 := by simpa using e2
    refine RSl.atf h hx 3 (by omega) fun es g r q => ?_
    obtain ⟨u, rfl, _⟩ := r
    simp only [List.getElem?_cons_zero, List.getElem?_cons_succ, Option.some.injEq] at q
    refine RSl.atf h' hy 3 (by omega) fun es' g' r' q' => ?_
    obtain ⟨w, rfl, _⟩ := r'
    simp only [List.getElem?_cons_zero, List.getElem?_cons_succ, Option.some.injEq] at q'
    rw [← q, ← q', pBin_ne, pIf_d]
    refine ⟨fun hne => no fun e => hne (by rw [e]), fun e3 => ?_⟩
    have e3 := Decidable.not_not.1 e3
    refine RSl.atf h hx 4 (by omega) fun es g r q => ?_
    obtain ⟨u, rfl, _⟩ := r
    simp only [List.getElem?_cons_zero, List.getElem?_cons_succ, Option.some.injEq] at q
    refine RSl.atf h' hy 4 (by omega) fun es' g' r' q' => ?_
    obtain ⟨w, rfl, _⟩ := r'
    simp only [List.getElem?_cons_zero, List.getElem?_cons_succ, Option.some.injEq] at q'
    rw [← q, ← q', pBin_sne, pIf_d]
    refine ⟨fun hne => no fun e => hne (by rw [e]), fun e4 => ?_⟩
    have e4 := Decidable.not_not.1 e4
    rw [pBin_add (by omega)]
    refine hL _ _ (m - 1) (by omega) ⟨j + 1, rfl, by omega, ?_, rfl⟩
    have exy : x = y := by
      obtain ⟨a1, a2, a3, a4, a5⟩ := x
      obtain ⟨b1, b2, b3, b4, b5⟩ := y
      simp only at e0 e1 e2 e3 e4
      rw [e0, e1, e2, e3, e4]
    rw [List.take_add_one, List.take_add_one, hx, hy, ht, exy]
  · have hj' : j = xs.length := by omega
    subst hj'
    rw [List.take_length, hlen, List.take_length] at ht
    subst ht
    simpa using hR

theorem law_DiffNone {u : Value} {bs : List Nat} (h : Bytes w0 u bs) {R : Value → Vw → Prop} (hR : ∀ s, R (.bool true) s) : AC Try.prog w0 n_laws_FnDiffNone [u] σ R := by
  refine ac_laws_FnDiffNone ?_
  unfold vc_laws_FnDiffNone
  rw [h.len, pBin_gt, pIf_d]
  refine ⟨fun _ => hR _, fun _ => ?_⟩
  refine spec_DrawDiffWalk h fun es x es' y s1 k1 hx hxs hy hys => ?_
  have hx0 := hx
  have hy0 := hy
  obtain ⟨f0, f1, f2, f3, f4, rfl, hp7⟩ := hx.shape
  obtain ⟨g0, g1, g2, g3, g4, rfl, hp8⟩ := hy.shape
  rw [pExtract_s rfl, pExtract_s rfl, hp7, hp8]
  simp only [cellOf_agg, List.getD_cons_zero, List.getD_cons_succ]
  have hcx : cntT 16 x ≤ 1000000000000 := Nat.le_trans (cnt_le 16 x) (by omega)
  have hcy : cntT 16 y ≤ 1000000000000 := Nat.le_trans (cnt_le 16 y) (by omega)
  refine impl_DiffWalk hx0 hy0 hcx hcy fun v2 F2 s2 k2 o2 q2 => ?_
  refine spec_DiffWalk (mono_rt _ _ _ _ _ k2.le hx0) (mono_rt _ _ _ _ _ k2.le hy0) hcx hcy fun v3 F3 s3 k3 o3 q3 => ?_
  have r2 := (o2.rel (ok_en w0)).mono k3.le fun _ _ => mono_en k3.le
  refine wtEntries r2 (o3.rel (ok_en w0)) ?_
  rw [pUn_not, pIf_b]
  refine ⟨fun h => by simp at h, fun _ => ?_⟩
  have K3 := k2.trans k3
  have hx3 := mono_rt _ _ _ _ _ K3.le hx0
  have hy3 := mono_rt _ _ _ _ _ K3.le hy0
  refine spec_TreeOk hx3 hcx (pNotIf.2 ⟨fun _ => hR _, fun hok => ?_⟩)
  refine spec_TreeOk hy3 hcy (pNotIf.2 ⟨fun _ => hR _, fun hok' => ?_⟩)
  rw [r2.len, pBin_eq]
  refine wtTree 16 16 hx3 hy3 ?_
  have e1 : decide (((diffX 16 16 x y).length : Int) = 0) = decide (x = y) := by
    refine decide_eq_decide.2 ⟨fun h => ?_, fun h => ?_⟩
    · exact (diff_nil hok hok').1 (List.eq_nil_of_length_eq_zero (by omega))
    · rw [(diff_nil hok hok').2 h]; rfl
  have eb : ∀ (p q : Bool) (K : Value → Prop), pBin Try.prog 4 .eql (.bool p) (.bool q) K ↔ K (.bool (p == q)) := fun p q K => pBin_b (by kernel_rfl) rfl
  rw [e1, eb, pIf_b]
  refine ⟨fun _ => ?_, fun h => by simp at h⟩
  refine impl_DiffWalk hx3 hx3 hcx hcx fun v4 F4 s4 k4 o4 q4 => ?_
  rw [(o4.rel (ok_en w0)).len, pBin_eq, (diff_nil hok hok).2 rfl]
  exact hR _
end
end Go.Proofs.Ytkbhjejalkbogaa

/- The law FnDiffNone holds: it returns true, and the input reads as it did. No condition. -/
namespace Go.Proofs.Ytkbhjejalkbogaa.fnDiffNone
open Go.ChangeShapes Go.WideShapes Go.ChangeAt Go.RowKit Go.Av
set_option linter.unusedVariables false
set_option linter.unusedSimpArgs false
theorem own : ownKnob Try.prog.godebug = none := by kernel_rfl
theorem laidOut : laidOutB Try.prog = true := by kernel_rfl
set_option maxRecDepth 100000 in
theorem lifted (os : Os) (started : os.Started) (H : Type) (enc : TypeId × Value → H) :
    ReturnsInHanded {} Try.checked os 6 .any (Rows.fnDiffNoneSpec.pre6 enc Try.prog Try.f6 Rows.fnDiffNoneRow.domain false) (Rows.fnDiffNoneSpec.post enc Try.prog Try.f6 false true false false) := by
  refine returnsInHanded_of_change_sized (C := Try.checked) own started (by kernel_rfl) Try.func6
    (ChangeSpec.witness6 (enc := enc) (C := Try.checked) false ⟨#[], #[.slice none 0 0], []⟩ 8 (by kernel_rfl) (by kernel_rfl) (by kernel_rfl) (by kernel_rfl)) ?_
  intro W base args ds gs before hval0 hW hcnd hsz0 _
  have hval : ∀ (j : Nat) t v, Try.f6.params[j]? = some t → args[j]? = some v → Value.okWide Try.prog W .any base t v := hval0
  have hW' := hW
  obtain ⟨p, q, hA0, hV, rfl, hfz, hnd⟩ := hW
  have hA : DataW.TrodAll enc Try.prog W 0 (fun _ => true) true Try.f6.params.toList args.toList ds p := hA0
  rw [Try.params6] at hA hval
  obtain ⟨v0, d0, rfl, rfl, h0⟩ := trodAll_one hA
  obtain ⟨rfl, rfl⟩ := trodVars_none hV
  obtain ⟨A0, len0, cap0, rfl⟩ := okWide_slice (t := 22) (e := 5) (by kernel_rfl) (hval 0 22 v0 rfl rfl)
  have h0k := h0
  obtain ⟨fuel0, hf0⟩ := h0
  clear hA0 hval0 hsz0
  simp only [List.append_nil] at hW'
  have hlt : ∀ x ∈ p, x.block < W.heap.size := fun x hx => by simpa using hW'.lt x hx
  have hargs0 : ∀ (W' : World), Below W.heap.size W W' → DataW.Trod enc Try.prog W' 0 (fun b => decide (b < W.heap.size)) true 22 (.slice A0 len0 cap0) d0 p :=
    fun W' hn => Below.trod laidOut (by kernel_rfl) (of_decide_eq_true (by kernel_rfl)) h0k hn hlt
  obtain ⟨u0, x0, hu0, r0⟩ := open_rsl (t := t_s_uint8) (e := t_uint8) (by kernel_rfl) (by kernel_rfl) open_byte hf0
  have hu0' : u0 = .slice A0 len0 cap0 := by
    have : [Value.slice A0 len0 cap0] = [u0] := hu0
    cases this; rfl
  subst hu0'
  refine ((law_DiffNone (R := fun v _ => v = .bool true) r0 (by intros; rfl)).calls).mono fun e W' ⟨v, σ', he, hv, bel⟩ => ?_
  subst he hv
  exact ⟨_, rfl, _, _, _, [], _, [], hW', trodAll_mk1 (shut_bool Try.underlying4 _), trodAll_mk1 (hargs0 W' bel), rfl, bel.frame _, fun h => by cases h⟩
theorem over : Rows.fnDiffNoneRow.holds Try.pinned (OpenSpec.ofChange Rows.fnDiffNoneSpec) :=
  OpenClaim.holds_of_wide 6 Try.f6 rfl rfl rfl rfl rfl rfl rfl ⟨rfl, rfl, rfl, rfl, rfl⟩ rfl rfl rfl rfl rfl (by kernel_rfl) Try.func6 (by kernel_rfl)
    (of_decide_eq_true (by kernel_rfl)) (by unfold Func.isWrapper; first | (rw [if_pos (by decide +kernel)]; kernel_rfl) | (rw [if_neg (by decide +kernel)]; exact ⟨rfl, rfl⟩))
    (fun os started H enc _ => lifted os started H enc)
theorem proved : Rows.FnDiffNoneSaid := over
end Go.Proofs.Ytkbhjejalkbogaa.fnDiffNone
namespace Go.Proofs.Ytkbhjejalkbogaa
/-- The row, under a short name, for the claim. -/
theorem fnDiffNone_holds : Rows.FnDiffNoneSaid := fnDiffNone.proved
end Go.Proofs.Ytkbhjejalkbogaa
