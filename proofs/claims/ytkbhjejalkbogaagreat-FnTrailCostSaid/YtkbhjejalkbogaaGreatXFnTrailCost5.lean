/- The law FnTrailCost holds: it returns true, and the input reads as it did. No condition. This is part 5 of 6 of its proof. -/
import Derived.Test.YtkbhjejalkbogaaGreatXFnTrailCost4
import Derived.Below

/- Calls that are drawn: their last turn. -/
set_option linter.unusedVariables false
set_option linter.unusedSimpArgs false
namespace Go.Proofs.YtkbhjejalkbogaaGreat
open Go Go.Av Go.RowKit

section
variable {w0 : World} {σ : Vw}

/-- One of some numbers. -/
theorem int_lit {b p m : Nat} {xs : List Int} (h : RD w0 σ b p) (hp : p ≤ 10000000) (hx : 0 < xs.length ∧ xs.length ≤ 1000) (hm : xs.length = m) {cells : List Value} (hc : cells = xs.map (Value.int .i64)) {ety : Nat} {K : Value → Vw → Prop} (hK : ∀ (x : Int) s, x ∈ xs → RD w0 s b (p + 1) → Keeps (σ.del b) (s.del b) → K (.int .i64 x) s) :
    pNew w0 ety cells σ (fun n s12 => AC Tryz.prog w0 n_p_spec_l1Rd_pick [ptr b, .int .i64 (m : Nat)] s12 (fun v13 s14 => pIndexAddr 1 (.slice (some (Addr.mk n 0 none)) m m) v13 (fun v15 => pLoad w0 1 v15 s14 (fun g16 => K (g16 0) s14)))) := by
  intro n h1 h2
  subst hc hm
  obtain ⟨hne, hrd, kk⟩ := h.new (r := ⟨ety, xs.map (Value.int .i64), (xs.map (Value.int .i64)).length, (0, 0)⟩) h2
  refine spec_pick hrd (by omega) (by omega) fun j s hj hrd' hd ho => ?_
  have hr : s n = some ⟨ety, xs.map (Value.int .i64), (xs.map (Value.int .i64)).length, (0, 0)⟩ := by rw [ho n hne]; exact put_at
  refine ⟨⟨n, 0, none⟩, xs.length, xs.length, .i64, j, rfl, rfl, by omega, by omega, ?_⟩
  refine ⟨_, fun _ => .int .i64 xs[j], rfl, fun i hi => ?_, hK _ s (List.getElem_mem hj) hrd' (by rw [hd]; exact kk)⟩
  have e : i = 0 := by omega
  subst e
  rw [add_add, addr_add, get_row h1 hr]
  simp only [Int.toNat_natCast, Nat.mul_one, Nat.add_zero, Nat.zero_add, List.getElem?_map, List.getElem?_eq_getElem hj, Option.map_some]

/-- What a drawn call is. -/
abbrev OutC (w0 : World) (σ : Vw) (b p : Nat) (R : Value → Vw → Prop) : Prop := ∀ cs (c : Cl) s, RD w0 s b p → Keeps (σ.del b) (s.del b) → RCl (Av.get w0 (s.del b)) cs c → c.2.2.2.2.size ≤ 1000 → R (.agg ⟨cs⟩) s
/-- A copy of a path in a row of our own. -/
theorem path_more' {b q n : Nat} {v : Value} {ps : List ByteArray} (h : RD w0 σ b q) (hv : RSl 1 RS (Av.get w0 (σ.del b)) v ps) (hl : ps.length ≤ 1000) (h1 : w0.heap.size ≤ n) (h2 : σ n = none) {K : Value → Vw → Prop} (hK : ∀ v' F s, RD w0 s b q → Keeps (σ.del b) (s.del b) → OAcc w0 t_string 1 OStr s F v' ps → (∀ i, i ∈ F → σ i = none ∧ i ≠ b) → K v' s) :
    pAppendS w0 t_string 1 16 (.slice (some (Addr.mk n 0 none)) 0 0) v (σ.put n ⟨t_string, [], 0, (0, 0)⟩) K := by
  obtain ⟨hne, hrd, kk⟩ := h.new (r := ⟨t_string, [], 0, (0, 0)⟩) h2
  refine (OAcc.new (w0 := w0) (σ := σ) (ety := t_string) (n := 1) (O := OStr) h1).all (ok_str w0) hv (kk.trans del_keeps).le (fun es y hy => ⟨rfl, hy⟩) (by simp; omega) (by omega) fun u' F1 s1 k1 o1 g1 => ?_
  rw [List.nil_append] at o1
  have hb1 : s1 b = (σ.put n ⟨t_string, [], 0, (0, 0)⟩) b := by
    cases hb : (σ.put n ⟨t_string, [], 0, (0, 0)⟩ : Vw) b with
    | none => exact absurd hb hrd.at
    | some r => exact k1 b r hb (fun e => hne (List.mem_singleton.1 e).symm)
  have K1 : Keeps (σ.del b) (s1.del b) := fun i r hi => by
    obtain ⟨e1, e2⟩ := del_some hi
    rw [del_ne e1]
    exact k1 i r (keeps_out kk e1 e2) fun hi' => by rw [List.mem_singleton.1 hi', h2] at e2; cases e2
  refine hK u' F1 s1 (hrd.keep hb1) K1 o1 fun i hi => ?_
  rcases g1 i hi with e | e
  · rw [List.mem_singleton.1 e]; exact ⟨h2, hne⟩
  · have hib : i ≠ b := fun e' => hrd.at (e' ▸ e)
    exact ⟨none_out kk hib e, hib⟩
theorem path_more {b q : Nat} {v : Value} {ps : List ByteArray} (h : RD w0 σ b q) (hv : RSl 1 RS (Av.get w0 (σ.del b)) v ps) (hl : ps.length ≤ 1000) {K : Value → Vw → Prop} (hK : ∀ v' F s, RD w0 s b q → Keeps (σ.del b) (s.del b) → OAcc w0 t_string 1 OStr s F v' ps → (∀ i, i ∈ F → σ i = none ∧ i ≠ b) → K v' s) :
    pNew w0 t_string [] σ (fun n21 s22 => pAppendS w0 t_string 1 16 (.slice (some (Addr.mk n21 0 none)) 0 0) v s22 K) := fun n h1 h2 => path_more' h hv hl h1 h2 hK
/-- A name is added to it. -/
theorem path_add {b q : Nat} {σ1 : Vw} {v : Value} {F : List Nat} {ps : List ByteArray} {nm : ByteArray} (h : RD w0 σ b q) (k0 : Keeps (σ1.del b) (σ.del b)) (ho : OAcc w0 t_string 1 OStr σ F v ps) (hF : ∀ i, i ∈ F → σ1 i = none ∧ i ≠ b) (hl : ps.length ≤ 1000) (hn : nm.size ≤ 1000000) {K : Value → Vw → Prop} (hK : ∀ v' s, RD w0 s b q → Keeps (σ1.del b) (s.del b) → RSl 1 RS (Av.get w0 (s.del b)) v' (ps ++ [nm]) → K v' s) :
    pVal false 1 (.string nm) (allOne [.string nm] ∧ pAppend w0 t_string 1 16 v 1 [.string nm] σ (fun v29 s30 => pVal false 1 v29 (K v29 s30))) := by
  rw [pVal1 rfl]
  refine ho.one (ok_str w0) (f := []) (y := nm) ⟨rfl, rfl, by omega⟩ (fun i hi => by cases hi) (by omega) (by omega) fun v2 F2 s2 k2 o2 f2 => ?_
  rw [pVal1 (OSl.one' o2.osl)]
  have hs2b : s2 b = σ b := by
    cases hb' : σ b with
    | none => exact absurd hb' h.at
    | some r => exact k2 b r hb' fun hb => (hF b hb).2 rfl
  have K2 : Keeps (σ1.del b) (s2.del b) := fun i r hi => by
    obtain ⟨e1, e2⟩ := del_some hi
    rw [del_ne e1]
    exact k2 i r (keeps_out k0 e1 e2) fun hi' => by rw [(hF i hi').1] at e2; cases e2
  have hF2 : ∀ i, i ∈ F2 → i ≠ b := fun i hi => by
    rcases f2 i hi with e | e | e
    · exact (hF i e).2
    · cases e
    · exact fun e' => h.at (e' ▸ e)
  exact hK v2 s2 (h.keep hs2b) K2 ((OSl.frame (ok_str w0) o2.osl fun i hi => del_ne (hF2 i hi)).rel (ok_str w0))

/-- The last turn of a drawn call. -/
theorem call_tail {b q : Nat} {k a : Int} {pv w : Value} {ps ts : List ByteArray} {d : ByteArray} (h : RD w0 σ b q) (hq : q ≤ 5000000) (hk : i64r k) (hv : RSl 1 RS (Av.get w0 (σ.del b)) pv ps) (hpl : ps.length ≤ 100) (hw : RSl 1 RS (Av.get w0 (σ.del b)) w ts) (ha : i64r a) (hdl : d.size ≤ 1000) {R : Value → Vw → Prop} (hR : OutC w0 σ b (q + 3) R) :
    AC Tryz.prog w0 n_p_spec_l1Rd_pick [ptr b, .int .i64 40] σ (fun v8 s9 => pBin Tryz.prog 3 .eql v8 (.int .i64 0) (fun v10 => pIf v10 (pVal false 1 (.int .i64 0) (pVal false 1 (.int .i64 7) (pVal false 1 (.int .i64 (-1)) (pNew w0 t_int [.int .i64 0, .int .i64 7, .int .i64 (-1)] s9 (fun n11 s12 => AC Tryz.prog w0 n_p_spec_l1Rd_pick [ptr b, .int .i64 3] s12 (fun v13 s14 => pIndexAddr 1 (.slice (some (Addr.mk n11 0 none)) 3 3) v13 (fun v15 => pLoad w0 1 v15 s14 (fun g16 => pVal false 1 (g16 0) (pVal true 5 (.agg (⟨[g16 0, pv, w, .int .i64 a, .string d]⟩)) (R (.agg (⟨[g16 0, pv, w, .int .i64 a, .string d]⟩)) s14)))))))))) (pBin Tryz.prog 3 .eql v8 (.int .i64 1) (fun v17 => pIf v17 (pNew w0 t_string [] s9 (fun n18 s19 => pVal false 1 (.slice (some (Addr.mk n18 0 none)) 0 0) (pVal true 5 (.agg (⟨[.int .i64 k, .slice (some (Addr.mk n18 0 none)) 0 0, w, .int .i64 a, .string d]⟩)) (R (.agg (⟨[.int .i64 k, .slice (some (Addr.mk n18 0 none)) 0 0, w, .int .i64 a, .string d]⟩)) s19)))) (pBin Tryz.prog 3 .eql v8 (.int .i64 2) (fun v20 => pIf v20 (pNew w0 t_string [] s9 (fun n21 s22 => pAppendS w0 t_string 1 16 (.slice (some (Addr.mk n21 0 none)) 0 0) pv s22 (fun v23 s24 => pVal false 1 (.string ({ data := #[] })) (pVal false 1 (.string ({ data := #[65] })) (pVal false 1 (.string ({ data := #[116, 111, 111, 108, 111, 110, 103] })) (pVal false 1 (.string ({ data := #[120] })) (pVal false 1 (.string ({ data := #[121] })) (pNew w0 t_string ([.string ({ data := #[] }), .string ({ data := #[65] }), .string ({ data := #[116, 111, 111, 108, 111, 110, 103] }), .string ({ data := #[120] }), .string ({ data := #[121] })]) s24 (fun n25 s26 => AC Tryz.prog w0 n_p_spec_l1Rd_of [ptr b, .slice (some (Addr.mk n25 0 none)) 5 5] s26 (fun v27 s28 => pVal false 1 v27 ((allOne [v27]) ∧ (pAppend w0 t_string 1 16 v23 1 [v27] s28 (fun v29 s30 => pVal false 1 v29 (pVal true 5 (.agg (⟨[.int .i64 k, v29, w, .int .i64 a, .string d]⟩)) (R (.agg (⟨[.int .i64 k, v29, w, .int .i64 a, .string d]⟩)) s30))))))))))))))) (pBin Tryz.prog 3 .eql v8 (.int .i64 3) (fun pv1 => pIf pv1 (pVal false 1 (.int .i64 (-1)) (pVal false 1 (.int .i64 8) (pVal false 1 (.int .i64 24) (pVal false 1 (.int .i64 25) (pNew w0 t_int [.int .i64 (-1), .int .i64 8, .int .i64 24, .int .i64 25] s9 (fun n32 s33 => AC Tryz.prog w0 n_p_spec_l1Rd_pick [ptr b, .int .i64 4] s33 (fun pv4 s35 => pIndexAddr 1 (.slice (some (Addr.mk n32 0 none)) 4 4) pv4 (fun pv6 => pLoad w0 1 pv6 s35 (fun g37 => pVal false 1 (g37 0) (pVal true 5 (.agg (⟨[.int .i64 k, pv, w, g37 0, .string d]⟩)) (R (.agg (⟨[.int .i64 k, pv, w, g37 0, .string d]⟩)) s35))))))))))) (pBin Tryz.prog 3 .eql v8 (.int .i64 4) (fun pv8 => pIf pv8 (AC Tryz.prog w0 n_p_spec_l1Rd_pick [ptr b, .int .i64 2] s9 (fun pv9 s40 => pBin Tryz.prog 3 .add (.int .i64 24) pv9 (fun v41 => AC Tryz.prog w0 n_spec_l1Many ([.string ({ data := #[113] }), v41]) s40 (fun v42 s43 => pVal false 1 v42 (pVal true 5 (.agg (⟨[.int .i64 k, pv, w, .int .i64 a, v42]⟩)) (R (.agg (⟨[.int .i64 k, pv, w, .int .i64 a, v42]⟩)) s43)))))) (pVal true 5 (.agg (⟨[.int .i64 k, pv, w, .int .i64 a, .string d]⟩)) (R (.agg (⟨[.int .i64 k, pv, w, .int .i64 a, .string d]⟩)) s9)))))))))))) := by
  have fin : ∀ (s : Vw) (k' a' : Int) (v' : Value) (ps' : List ByteArray) (d' : ByteArray) (q' : Nat), RD w0 s b q' → q' ≤ q + 3 → Keeps (σ.del b) (s.del b) → RSl 1 RS (Av.get w0 (s.del b)) v' ps' → i64r k' → i64r a' → d'.size ≤ 1000 → pVal true 5 (.agg (⟨[.int .i64 k', v', w, .int .i64 a', .string d']⟩)) (R (.agg (⟨[.int .i64 k', v', w, .int .i64 a', .string d']⟩)) s) := fun s k' a' v' ps' d' q' hrd hq' ks hv' hk' ha' hd' => by
    have hw' := hw.mono ks.le fun _ _ h => h
    rw [pVal_5 rfl hv'.one hw'.one rfl rfl]
    exact hR _ (k', ps', ts, a', d') s (hrd.more hq') ks ⟨v', w, rfl, hv', hw', hk', ha', by show d'.size ≤ _; omega⟩ hd'
  refine spec_pick (n := 40) h (by omega) (by omega) fun j s9 hj hrd9 hd9 ho9 => ?_
  have k9 : Keeps (σ.del b) (s9.del b) := by rw [hd9]; exact Keeps.refl _
  have hv9 := hv.mono k9.le fun _ _ h => h
  rw [pBin_eq, pIf_d]
  refine ⟨fun _ => ?_, fun _ => ?_⟩
  · rw [pVal1 rfl, pVal1 rfl, pVal1 rfl]
    refine int_lit (xs := [0, 7, -1]) hrd9 (by omega) (by simp) rfl rfl (K := fun x s => pVal false 1 x (pVal true 5 (.agg (⟨[x, pv, w, .int .i64 a, .string d]⟩)) (R (.agg (⟨[x, pv, w, .int .i64 a, .string d]⟩)) s))) fun x s hx hrd ks => ?_
    rw [pVal1 rfl]
    have hx : i64r x := by simp at hx; rcases hx with rfl | rfl | rfl <;> omega
    exact fin s x a pv ps d _ hrd (by omega) (k9.trans ks) (hv9.mono ks.le fun _ _ h => h) hx ha hdl
  rw [pBin_eq, pIf_d]
  refine ⟨fun _ => ?_, fun _ => ?_⟩
  · intro n h1 h2
    obtain ⟨hne, hrd, kk⟩ := hrd9.new (r := ⟨t_string, [], 0, (0, 0)⟩) h2
    rw [pVal1 rfl]
    refine fin _ k a _ [] d _ hrd (by omega) (k9.trans kk) ?_ hk ha hdl
    exact ⟨_, 0, rfl, by simp, fun j x h => by simp at h⟩
  rw [pBin_eq, pIf_d]
  refine ⟨fun _ => ?_, fun _ => ?_⟩
  · refine path_more hrd9 hv9 (by omega) fun v' F s hrd ks ho hF => ?_
    rw [pVal1 rfl, pVal1 rfl, pVal1 rfl, pVal1 rfl, pVal1 rfl]
    have hsz : ∀ x, x ∈ [(⟨#[]⟩ : ByteArray), ⟨#[65]⟩, ⟨#[116, 111, 111, 108, 111, 110, 103]⟩, ⟨#[120]⟩, ⟨#[121]⟩] → x.size ≤ 7 := by
      intro x hx
      simp at hx
      rcases hx with rfl | rfl | rfl | rfl | rfl <;> decide
    refine of_lit (xs := [(⟨#[]⟩ : ByteArray), ⟨#[65]⟩, ⟨#[116, 111, 111, 108, 111, 110, 103]⟩, ⟨#[120]⟩, ⟨#[121]⟩]) hrd (by omega) (by simp) (fun x hx => by have := hsz x hx; omega) rfl rfl fun x s2 hx hrd2 k2 => ?_
    have hxs := hsz x hx
    have ho2 : OAcc w0 t_string 1 OStr s2 F v' ps := OAcc.frame (ok_str w0) ho fun i hi => by
      cases hs : s i with
      | none => exact absurd hs (ho.dom (ok_str w0) i hi).2
      | some r => exact keeps_out k2 (hF i hi).2 hs
    refine path_add (σ1 := s9) hrd2 (ks.trans k2) ho2 hF (by omega) (by omega) fun v3 s3 hrd3 k3 hv3 => ?_
    exact fin s3 k a v3 _ d _ hrd3 (by omega) (k9.trans k3) hv3 hk ha hdl
  rw [pBin_eq, pIf_d]
  refine ⟨fun _ => ?_, fun _ => ?_⟩
  · rw [pVal1 rfl, pVal1 rfl, pVal1 rfl, pVal1 rfl]
    refine int_lit (xs := [-1, 8, 24, 25]) hrd9 (by omega) (by simp) rfl rfl (K := fun x s => pVal false 1 x (pVal true 5 (.agg (⟨[.int .i64 k, pv, w, x, .string d]⟩)) (R (.agg (⟨[.int .i64 k, pv, w, x, .string d]⟩)) s))) fun x s hx hrd ks => ?_
    rw [pVal1 rfl]
    have hx : i64r x := by simp at hx; rcases hx with rfl | rfl | rfl | rfl <;> omega
    exact fin s k x pv ps d _ hrd (by omega) (k9.trans ks) (hv9.mono ks.le fun _ _ h => h) hk hx hdl
  rw [pBin_eq, pIf_d]
  refine ⟨fun _ => ?_, fun _ => fin s9 k a pv ps d _ hrd9 (by omega) k9 hv9 hk ha hdl⟩
  refine spec_pick (n := 2) hrd9 (by omega) (by omega) fun j2 s4 hj2 hrd4 hd4 _ => ?_
  have k4 : Keeps (s9.del b) (s4.del b) := by rw [hd4]; exact Keeps.refl _
  rw [pBin_add (by omega), show (24 : Int) + (j2 : Nat) = ((24 + j2 : Nat) : Int) by omega]
  have e1 : (⟨#[113]⟩ : ByteArray).size = 1 := rfl
  refine spec_l1Many (s0 := ⟨#[113]⟩) (n := 24 + j2) (by rw [e1]; omega) (by rw [e1]; omega) (by omega) fun t ht => ?_
  rw [e1] at ht
  rw [pVal1 rfl]
  exact fin s4 k a pv ps t _ hrd4 (by omega) (k9.trans k4) (hv9.mono k4.le fun _ _ h => h) hk ha (by omega)
end
end Go.Proofs.YtkbhjejalkbogaaGreat

/- Calls that are drawn; calls done one behind another. -/
set_option linter.unusedVariables false
set_option linter.unusedSimpArgs false
namespace Go.Proofs.YtkbhjejalkbogaaGreat
open Go Go.Av Go.RowKit

section
variable {w0 : World} {σ : Vw}

theorem OutC.from {b p q : Nat} {s : Vw} {R : Value → Vw → Prop} (hR : OutC w0 σ b p R) (k : Keeps (σ.del b) (s.del b)) (hq : q ≤ p) : OutC w0 s b q R := fun cs c s' h1 h2 h3 h4 => hR cs c s' (h1.more hq) (k.trans h2) h3 h4
theorem nil_strs {rd : Addr → Option Value} : RSl 1 RS rd (.slice none 0 0) [] := ⟨none, 0, rfl, by simp, fun j x h => by simp at h⟩

set_option maxRecDepth 40000 in
set_option maxHeartbeats 16000000 in
theorem spec_l4Call {b p n : Nat} {es : List Value} {x : Tr} (h : RD w0 σ b p) (hp : p ≤ 1000000) (ht : RT n (Av.get w0 (σ.del b)) es x) (hsz : szT n x ≤ 1000000000) {R : Value → Vw → Prop} (hR : OutC w0 σ b (p + 60) R) : AC Tryz.prog w0 n_spec_l4Call [ptr b, .agg ⟨es⟩] σ R := by
  have ht0 := ht
  obtain ⟨c0, c1, c2, c3, c4, rfl, hp5⟩ := ht.shape
  refine ac_spec_l4Call ?_
  unfold vc_spec_l4Call cs_spec_l4Call_1 cs_spec_l4Call_3 cs_spec_l4Call_2 cs_spec_l4Call_4
  rw [hp5]
  simp only [cellOf_agg, List.getD_cons_zero, List.getD_cons_succ]
  refine spec_pick (n := 6) h (by omega) (by omega) fun j s1 hj hrd1 hd1 _ => ?_
  have k1 : Keeps (σ.del b) (s1.del b) := by rw [hd1]; exact Keeps.refl _
  rw [pBin_add (by omega), show (1 : Int) + (j : Nat) = ((1 + j : Nat) : Int) by omega]
  refine spec_l4Path hrd1 (by omega) (mono_rt n _ _ _ _ k1.le ht0) hsz fun v3 ps s4 hrd4 k4 hv hpl => ?_
  have K4 := k1.trans k4
  have ht4 := mono_rt n _ _ _ _ K4.le ht0
  rw [pVal1 rfl, pVal1 hv.one, pVal_5 rfl hv.one rfl rfl rfl]
  generalize hkk : ((1 + j : Nat) : Int) = kk
  have hk : i64r kk := by omega
  have hn4 : RSl 1 RS (Av.get w0 (s4.del b)) (.slice none 0 0) [] := nil_strs
  have e0 : (⟨#[]⟩ : ByteArray).size ≤ 1000 := by decide
  have R4 := OutC.from hR K4 (q := p + 1 + 20 + 3) (by omega)
  refine pBin_eq.2 (pIf_d.2 ⟨fun hyes => ?_, fun hno => ?_⟩)
  · skip
    refine pIf_d.2 ⟨fun _ => ?_, fun hc => absurd hyes hc⟩
    refine spec_pick (n := 8) hrd4 (by omega) (by omega) fun j2 s5 hj2 hrd5 hd5 _ => ?_
    have k5 : Keeps (s4.del b) (s5.del b) := by rw [hd5]; exact Keeps.refl _
    rw [pVal1 rfl]
    exact call_tail hrd5 (by omega) hk (hv.mono k5.le fun _ _ h => h) (by omega) nil_strs (by omega) e0 (OutC.from hR (K4.trans k5) (by omega))
  · skip
    refine pBin_eq.2 (pIf_d.2 ⟨fun hyes => ?_, fun hno => ?_⟩)
    · skip
      refine spec_pick (n := 8) hrd4 (by omega) (by omega) fun j2 s5 hj2 hrd5 hd5 _ => ?_
      have k5 : Keeps (s4.del b) (s5.del b) := by rw [hd5]; exact Keeps.refl _
      rw [pVal1 rfl]
      exact call_tail hrd5 (by omega) hk (hv.mono k5.le fun _ _ h => h) (by omega) nil_strs (by omega) e0 (OutC.from hR (K4.trans k5) (by omega))
    · skip
      refine pBin_eq.2 (pIf_d.2 ⟨fun hyes => ?_, fun hno => ?_⟩)
      · skip
        refine pIf_d.2 ⟨fun _ => ?_, fun hc => absurd hyes hc⟩
        refine spec_pick (n := 4) hrd4 (by omega) (by omega) fun j2 s5 hj2 hrd5 hd5 _ => ?_
        have k5 : Keeps (s4.del b) (s5.del b) := by rw [hd5]; exact Keeps.refl _
        refine spec_pick (n := 4) hrd5 (by omega) (by omega) fun j3 s6 hj3 hrd6 hd6 _ => ?_
        have k6 : Keeps (s5.del b) (s6.del b) := by rw [hd6]; exact Keeps.refl _
        have hmul : j2 * j3 ≤ 3 * 3 := Nat.mul_le_mul (by omega) (by omega)
        have hcast : ((j2 : Nat) : Int) * ((j3 : Nat) : Int) = ((j2 * j3 : Nat) : Int) := (Int.natCast_mul _ _).symm
        rw [pBin_mul (by rw [hcast]; omega), hcast]
        generalize j2 * j3 = jj at hmul
        rw [pVal1 rfl, pBin_eq, pIf_d]
        refine ⟨fun _ => ?_, fun _ => call_tail hrd6 (by omega) hk (hv.mono (k5.trans k6).le fun _ _ h => h) (by omega) nil_strs (by omega) e0 (OutC.from hR (K4.trans (k5.trans k6)) (by omega))⟩
        refine spec_l4Data hrd6 (by omega) fun dt s7 hdt hrd7 k7 => ?_
        rw [pVal1 rfl]
        exact call_tail hrd7 (by omega) hk (hv.mono ((k5.trans k6).trans k7).le fun _ _ h => h) (by omega) nil_strs (by omega) hdt (OutC.from hR (K4.trans ((k5.trans k6).trans k7)) (by omega))
      · skip
        refine pBin_eq.2 (pIf_d.2 ⟨fun hyes => ?_, fun hno => ?_⟩)
        · skip
          refine spec_pick (n := 4) hrd4 (by omega) (by omega) fun j2 s5 hj2 hrd5 hd5 _ => ?_
          have k5 : Keeps (s4.del b) (s5.del b) := by rw [hd5]; exact Keeps.refl _
          refine spec_pick (n := 4) hrd5 (by omega) (by omega) fun j3 s6 hj3 hrd6 hd6 _ => ?_
          have k6 : Keeps (s5.del b) (s6.del b) := by rw [hd6]; exact Keeps.refl _
          have hmul : j2 * j3 ≤ 3 * 3 := Nat.mul_le_mul (by omega) (by omega)
          have hcast : ((j2 : Nat) : Int) * ((j3 : Nat) : Int) = ((j2 * j3 : Nat) : Int) := (Int.natCast_mul _ _).symm
          rw [pBin_mul (by rw [hcast]; omega), hcast]
          generalize j2 * j3 = jj at hmul
          rw [pVal1 rfl, pBin_eq, pIf_d]
          refine ⟨fun _ => ?_, fun _ => call_tail hrd6 (by omega) hk (hv.mono (k5.trans k6).le fun _ _ h => h) (by omega) nil_strs (by omega) e0 (OutC.from hR (K4.trans (k5.trans k6)) (by omega))⟩
          refine spec_l4Data hrd6 (by omega) fun dt s7 hdt hrd7 k7 => ?_
          rw [pVal1 rfl]
          exact call_tail hrd7 (by omega) hk (hv.mono ((k5.trans k6).trans k7).le fun _ _ h => h) (by omega) nil_strs (by omega) hdt (OutC.from hR (K4.trans ((k5.trans k6).trans k7)) (by omega))
        · skip
          refine pBin_eq.2 (pIf_d.2 ⟨fun hyes => ?_, fun hno => ?_⟩)
          · skip
            refine spec_l4Path hrd4 (by omega) ht4 hsz fun v5 qs s5 hrd5 k5 hv5 hql => ?_
            have hv3 := hv.mono k5.le fun _ _ h => h
            rw [pVal1 hv5.one]
            refine spec_pick (n := 2) hrd5 (by omega) (by omega) fun j2 s6 hj2 hrd6 hd6 _ => ?_
            have k6 : Keeps (s5.del b) (s6.del b) := by rw [hd6]; exact Keeps.refl _
            rw [pBin_eq, pIf_d]
            refine ⟨fun _ => ?_, fun _ => call_tail hrd6 (by omega) hk (hv3.mono k6.le fun _ _ h => h) (by omega) (hv5.mono k6.le fun _ _ h => h) (by omega) e0 (OutC.from hR (K4.trans (k5.trans k6)) (by omega))⟩
            intro n1 h1 h2
            rw [hv5.len, pBin_sub (by omega), show ((qs.length : Nat) : Int) - 1 = ((qs.length - 1 : Nat) : Int) by omega]
            refine RSl.take (hv5.mono k6.le fun _ _ h => h) (by omega) fun v7 hv7 => ?_
            refine path_more' hrd6 hv7 (by rw [List.length_take]; omega) h1 h2 fun v8 F s8 hrd8 k8 ho8 hF8 => ?_
            refine spec_l4Name hrd8 (by omega) fun nm s9 hnm hrd9 k9 => ?_
            have ho9 : OAcc w0 t_string 1 OStr s9 F v8 (qs.take (qs.length - 1)) := OAcc.frame (ok_str w0) ho8 fun i hi => by
              cases hs : s8 i with
              | none => exact absurd hs (ho8.dom (ok_str w0) i hi).2
              | some r => exact keeps_out k9 (hF8 i hi).2 hs
            refine path_add (σ1 := s6) hrd9 (k8.trans k9) ho9 hF8 (by rw [List.length_take]; omega) (by omega) fun v9 s10 hrd10 k10 hv10 => ?_
            exact call_tail hrd10 (by omega) hk ((hv3.mono k6.le fun _ _ h => h).mono k10.le fun _ _ h => h) (by omega) hv10 (by omega) e0 (OutC.from hR (K4.trans ((k5.trans k6).trans k10)) (by omega))
          · skip
            exact call_tail hrd4 (by omega) hk hv (by omega) hn4 (by omega) e0 R4
end
end Go.Proofs.YtkbhjejalkbogaaGreat

/- Calls done one behind another; trees that are drawn. -/
set_option linter.unusedVariables false
set_option linter.unusedSimpArgs false
set_option maxRecDepth 20000
namespace Go.Proofs.YtkbhjejalkbogaaGreat
open Go Go.Av Go.RowKit

section
variable {w0 : World} {σ : Vw}

theorem keeps_del {s : Vw} {b : Nat} (k : Keeps σ s) : Keeps (σ.del b) (s.del b) := fun i r hi => by
  obtain ⟨e1, e2⟩ := del_some hi
  rw [del_ne e1]; exact k i r e2
theorem RD.kept {b p : Nat} {s : Vw} (h : RD w0 σ b p) (k : Keeps σ s) : RD w0 s b p := by
  refine h.keep ?_
  cases hb : σ b with
  | none => exact absurd hb h.at
  | some r => exact k b r hb
/-- What a drawn tree is. -/
abbrev OutTR (w0 : World) (σ : Vw) (b p N S : Nat) (R : Value → Vw → Prop) : Prop := ∀ es y s, RD w0 s b p → Keeps (σ.del b) (s.del b) → RT N (Av.get w0 (s.del b)) es y → szT N y ≤ S → R (.agg ⟨es⟩) s
theorem TreeDo_rd {b p n : Nat} {es cs : List Value} {x : Tr} {c : Cl} (h : RD w0 σ b p) (ht : RT n (Av.get w0 (σ.del b)) es x) (hs : szT n x ≤ 1000000000) (hc : RCl (Av.get w0 (σ.del b)) cs c) (hdl : c.2.2.2.2.size ≤ 1000000) {R : Value → Vw → Prop}
    (hR : ∀ ey y s k, Keeps (σ.del b) (s.del b) → RD w0 s b p → RT 11 (Av.get w0 (s.del b)) ey y → szT 11 y ≤ 40000000 → (0 ≤ k ∧ k ≤ 7) → R (.tuple ⟨[.agg ⟨ey⟩, .int .i64 k]⟩) s) : AC Tryz.prog w0 n_spec_TreeDo [.agg ⟨es⟩, .agg ⟨cs⟩] σ R :=
  h.hide (R := fun v s => Keeps (σ.del b) s ∧ ∃ ey y k, v = .tuple ⟨[.agg ⟨ey⟩, .int .i64 k]⟩ ∧ RT 11 (Av.get w0 s) ey y ∧ szT 11 y ≤ 40000000 ∧ (0 ≤ k ∧ k ≤ 7))
    (spec_TreeDo ht hs hc hdl fun ey y s k k1 r1 r2 r3 => ⟨k1, ey, y, k, rfl, r1, r2, r3⟩)
    (fun v s k hrd ⟨_, ey, y, c, e, r1, r2, r3⟩ => by subst e; exact hR ey y s c k hrd r1 r2 r3) fun v s h => h.1

theorem spec_l4Calls {b p N S k : Nat} {es : List Value} {x : Tr} (h : RD w0 σ b p) (hp : p + 60 * k ≤ 900000) (hk : k ≤ 100) (hN : 11 ≤ N) (hS : 40000000 ≤ S ∧ S ≤ 900000000) (ht : RT N (Av.get w0 (σ.del b)) es x) (hs : szT N x ≤ S) {R : Value → Vw → Prop} (hR : OutTR w0 σ b (p + 60 * k) N S R) : AC Tryz.prog w0 n_spec_l4Calls [ptr b, .agg ⟨es⟩, .int .i64 (k : Nat)] σ R := by
  have ht0 := ht
  obtain ⟨c0, c1, c2, c3, c4, rfl, hp5⟩ := ht.shape
  refine ac_spec_l4Calls ?_
  unfold vc_spec_l4Calls
  rw [hp5]
  simp only [cellOf_agg, List.getD_cons_zero, List.getD_cons_succ]
  refine loop_rule (m := k) (fun m l s => ∃ (i q : Nat) (d0 d1 d2 d3 d4 : Value) (y : Tr), m = i ∧ i ≤ k ∧ q + 60 * i ≤ p + 60 * k ∧ RD w0 s b q ∧ Keeps (σ.del b) (s.del b) ∧ RT N (Av.get w0 (s.del b)) [d0, d1, d2, d3, d4] y ∧ szT N y ≤ S ∧
      l = [ptr b, .int .i64 (i : Nat), d0, d1, d2, d3, d4, .bool false, .int .i64 0, .string ⟨#[]⟩, .slice none 0 0, .slice none 0 0]) ?_
    ⟨k, p, c0, c1, c2, c3, c4, x, rfl, Nat.le_refl _, Nat.le_refl _, h, Keeps.refl _, ht0, hs, rfl⟩
  rintro m l s L ⟨i, q, d0, d1, d2, d3, d4, y, rfl, hi, hq, hrd, ks, hy, hys, rfl⟩ hL
  simp only [vget, List.getD_cons_zero, List.getD_cons_succ]
  rw [pBin_gt, pIf_d]
  have hy0 := hy
  have e5 := hy.shape
  have hp6 : ∀ A : Prop, pVal true 5 (.agg ⟨[d0, d1, d2, d3, d4]⟩) A ↔ A := by
    obtain ⟨_, _, _, _, _, e, hh⟩ := hy.shape
    cases e; exact hh
  refine ⟨fun hpos => ?_, fun _ => ?_⟩
  · refine spec_l4Call hrd (by omega) hy0 (by omega) fun cs c s1 hrd1 k1 hc hcs => ?_
    refine TreeDo_rd hrd1 (mono_rt _ _ _ _ _ k1.le hy0) (by omega) hc (by omega) fun ey z s2 cd k2 hrd2 hz hzs hcd => ?_
    have hz0 := hz
    obtain ⟨f0, f1, f2, f3, f4, rfl, hp7⟩ := hz.shape
    rw [pExtract_s rfl, pExtract_s rfl, hp7, pBin_eq, pIf_d]
    simp only [cellOf_agg, List.getD_cons_zero, List.getD_cons_succ]
    have hzN : RT N (Av.get w0 (s2.del b)) [f0, f1, f2, f3, f4] z := RT_le hN hz0
    have hzsN : szT N z ≤ S := by rw [sz_more hz0.isT hN]; omega
    refine ⟨fun _ => ?_, fun _ => ?_⟩
    · rw [hp7, pBin_sub (by omega)]
      exact hL _ _ (m - 1) (by omega) ⟨m - 1, q + 60, f0, f1, f2, f3, f4, z, rfl, by omega, by omega, hrd2, (ks.trans k1).trans k2, hzN, hzsN, by rw [show ((m : Nat) : Int) - 1 = ((m - 1 : Nat) : Int) by omega]⟩
    · rw [pBin_sub (by omega)]
      exact hL _ _ (m - 1) (by omega) ⟨m - 1, q + 60, d0, d1, d2, d3, d4, y, rfl, by omega, by omega, hrd2, (ks.trans k1).trans k2, mono_rt _ _ _ _ _ (k1.trans k2).le hy0, hys, by rw [show ((m : Nat) : Int) - 1 = ((m - 1 : Nat) : Int) by omega]⟩
  · show pVal true 5 (.agg ⟨[d0, d1, d2, d3, d4]⟩) _
    rw [hp6]
    exact hR _ y s (hrd.more (by omega)) ks hy0 hys

theorem i64_zero : i64r 0 := by omega
theorem sz_dir0 {n : Nat} {m : Int} : szT n (.mk true m ⟨#[]⟩ [] []) = 0 := by
  cases n with
  | zero => rfl
  | succ n => rfl
theorem RT_dir0 (n : Nat) (rd : Addr → Option Value) {m : Int} (hm : -9223372036854775808 ≤ m ∧ m ≤ 9223372036854775807) : RT (n + 1) rd [.bool true, .int .i64 m, .string ⟨#[]⟩, .slice none 0 0, .slice none 0 0] (.mk true m ⟨#[]⟩ [] []) :=
  ⟨_, _, rfl, hm, by show 0 ≤ _; omega, ⟨none, 0, rfl, by simp, fun j x h => by simp at h⟩, ⟨none, 0, rfl, by simp, fun j x h => by simp at h⟩⟩

set_option maxHeartbeats 4000000 in
theorem spec_l4Tree {b p : Nat} (h : RD w0 σ b p) (hp : p ≤ 800000) {R : Value → Vw → Prop} (hR : OutTR w0 σ b (p + 700) 11 40000000 R) : AC Tryz.prog w0 n_spec_l4Tree [ptr b] σ R := by
  refine ac_spec_l4Tree ?_
  unfold vc_spec_l4Tree cs_spec_l4Tree_1
  refine spec_pick (n := 8) h (by omega) (by omega) fun j s1 hj hrd1 hd1 _ => ?_
  have k1 : Keeps (σ.del b) (s1.del b) := by rw [hd1]; exact Keeps.refl _
  refine spec_pick (n := 2) hrd1 (by omega) (by omega) fun j2 s2 hj2 hrd2 hd2 _ => ?_
  have k2 : Keeps (s1.del b) (s2.del b) := by rw [hd2]; exact Keeps.refl _
  have hmul : j * j2 ≤ 7 * 1 := Nat.mul_le_mul (by omega) (by omega)
  have hcast : ((j : Nat) : Int) * ((j2 : Nat) : Int) = ((j * j2 : Nat) : Int) := (Int.natCast_mul _ _).symm
  rw [pBin_mul (by rw [hcast]; omega), hcast, pVal1 rfl, pVal1 rfl, pVal_5 rfl rfl rfl rfl rfl]
  generalize j * j2 = jj at hmul
  refine spec_pick (n := 12) hrd2 (by omega) (by omega) fun k s3 hk hrd3 hd3 _ => ?_
  have k3 : Keeps (s2.del b) (s3.del b) := by rw [hd3]; exact Keeps.refl _
  have K3 := (k1.trans k2).trans k3
  refine loop_rule (m := k) (fun m l s => ∃ (i q : Nat) (d0 d1 d2 d3 d4 : Value) (y : Tr), m = i ∧ i ≤ k ∧ q + 25 * i ≤ p + 3 + 25 * k ∧ RD w0 s b q ∧ Keeps (σ.del b) (s.del b) ∧ RT 11 (Av.get w0 (s.del b)) [d0, d1, d2, d3, d4] y ∧ szT 11 y ≤ 40000000 ∧
      l = [ptr b, .int .i64 (i : Nat), .bool false, .int .i64 0, .string ⟨#[]⟩, .slice none 0 0, .slice none 0 0, d0, d1, d2, d3, d4]) ?_
    ⟨k, p + 1 + 1 + 1, _, _, _, _, _, _, rfl, Nat.le_refl _, by omega, hrd3, K3, RT_dir0 10 _ (m := ((jj : Nat) : Int)) (by omega), by rw [sz_dir0]; omega, rfl⟩
  rintro m l s L ⟨i, q, d0, d1, d2, d3, d4, y, rfl, hi, hq, hrd, ks, hy, hys, rfl⟩ hL
  simp only [vget, List.getD_cons_zero, List.getD_cons_succ]
  have hy0 := hy
  have hp6 : ∀ A : Prop, pVal true 5 (.agg ⟨[d0, d1, d2, d3, d4]⟩) A ↔ A := by
    obtain ⟨_, _, _, _, _, e, hh⟩ := hy.shape
    cases e; exact hh
  rw [pBin_gt, pIf_d]
  refine ⟨fun hpos => ?_, fun _ => ?_⟩
  · refine spec_pick (n := 2) hrd (by omega) (by omega) fun j3 s4 hj3 hrd4 hd4 _ => ?_
    have k4 : Keeps (s.del b) (s4.del b) := by rw [hd4]; exact Keeps.refl _
    rw [pBin_add (by omega), show (1 : Int) + (j3 : Nat) = ((1 + j3 : Nat) : Int) by omega]
    refine spec_l4Path hrd4 (by omega) (mono_rt _ _ _ _ _ k4.le hy0) (by omega) fun pv ps s5 hrd5 k5 hv hpl => ?_
    rw [pVal1 rfl, pVal1 hv.one, pVal_5 rfl hv.one rfl rfl rfl]
    have K5 := (ks.trans k4).trans k5
    -- a call that is done
    have DO : ∀ (s6 : Vw) (q6 : Nat) (d : ByteArray), RD w0 s6 b q6 → q6 + 25 * (m - 1) ≤ p + 3 + 25 * k → Keeps (s5.del b) (s6.del b) → d.size ≤ 1000 →
        AC Tryz.prog w0 n_spec_TreeDo ([.agg (⟨[d0, d1, d2, d3, d4]⟩), .agg (⟨[.int .i64 ((1 + j3 : Nat) : Int), pv, .slice none 0 0, .int .i64 0, .string d]⟩)]) s6 (fun v19 s20 => pExtract v19 0 (fun v21 => pExtract v19 1 (fun v22 => pVal true 5 v21 (pBin Tryz.prog 3 .eql v22 (.int .i64 0) (fun v23 => pIf v23 (pVal true 5 (.agg (⟨[cellOf v21 0, cellOf v21 1, cellOf v21 2, cellOf v21 3, cellOf v21 4]⟩)) (pBin Tryz.prog 3 .sub (.int .i64 (m : Nat)) (.int .i64 1) (fun v24 => L [ptr b, v24, .bool false, .int .i64 0, .string ⟨#[]⟩, .slice none 0 0, .slice none 0 0, cellOf v21 0, cellOf v21 1, cellOf v21 2, cellOf v21 3, cellOf v21 4] s20))) (pBin Tryz.prog 3 .sub (.int .i64 (m : Nat)) (.int .i64 1) (fun v25 => L [ptr b, v25, .bool false, .int .i64 0, .string ⟨#[]⟩, .slice none 0 0, .slice none 0 0, d0, d1, d2, d3, d4] s20))))))) := by
      intro s6 q6 d hrd6 hq6 k6 hd
      have kk := (k4.trans k5).trans k6
      refine TreeDo_rd hrd6 (mono_rt _ _ _ _ _ kk.le hy0) (by omega) (c := (((1 + j3 : Nat) : Int), ps, [], 0, d)) ⟨pv, _, rfl, hv.mono k6.le fun _ _ h => h, nil_strs, by show i64r _; omega, i64_zero, by show d.size ≤ _; omega⟩ (by show d.size ≤ _; omega) fun ey z s7 cd k7 hrd7 hz hzs hcd => ?_
      have hz0 := hz
      obtain ⟨f0, f1, f2, f3, f4, rfl, hp7⟩ := hz.shape
      rw [pExtract_s rfl, pExtract_s rfl, hp7, pBin_eq, pIf_d]
      simp only [cellOf_agg, List.getD_cons_zero, List.getD_cons_succ]
      refine ⟨fun _ => ?_, fun _ => ?_⟩
      · rw [hp7, pBin_sub (by omega)]
        exact hL _ _ (m - 1) (by omega) ⟨m - 1, q6, f0, f1, f2, f3, f4, z, rfl, by omega, by omega, hrd7, (ks.trans kk).trans k7, hz0, by omega, by rw [show ((m : Nat) : Int) - 1 = ((m - 1 : Nat) : Int) by omega]⟩
      · rw [pBin_sub (by omega)]
        exact hL _ _ (m - 1) (by omega) ⟨m - 1, q6, d0, d1, d2, d3, d4, y, rfl, by omega, by omega, hrd7, (ks.trans kk).trans k7, mono_rt _ _ _ _ _ (kk.trans k7).le hy0, hys, by rw [show ((m : Nat) : Int) - 1 = ((m - 1 : Nat) : Int) by omega]⟩
    rw [pBin_eq, pIf_d]
    refine ⟨fun _ => ?_, fun _ => DO s5 _ ⟨#[]⟩ hrd5 (by omega) (Keeps.refl _) (by decide)⟩
    refine spec_l4Data hrd5 (by omega) fun d s6 hd hrd6 k6 => ?_
    rw [pVal1 rfl]
    exact DO s6 _ d hrd6 (by omega) k6 hd
  · show AC Tryz.prog w0 n_p_spec_l1Rd_pick [ptr b, .int .i64 6] s _
    refine spec_pick (n := 6) hrd (by omega) (by omega) fun j4 s4 hj4 hrd4 hd4 _ => ?_
    have k4 : Keeps (s.del b) (s4.del b) := by rw [hd4]; exact Keeps.refl _
    refine spec_l4Calls hrd4 (by omega) (by omega) (Nat.le_refl _) (S := 40000000) (by omega) (mono_rt _ _ _ _ _ k4.le hy0) hys fun ey z s5 hrd5 k5 hz hzs => ?_
    have hz0 := hz
    obtain ⟨f0, f1, f2, f3, f4, rfl, hp7⟩ := hz.shape
    rw [hp7]
    simp only [cellOf_agg, List.getD_cons_zero, List.getD_cons_succ]
    exact hR _ z s5 (hrd5.more (by omega)) ((ks.trans k4).trans k5) hz0 hzs

end
end Go.Proofs.YtkbhjejalkbogaaGreat

/- A tree that is drawn and spoilt: a copy in rows of our own that is written. -/
set_option linter.unusedVariables false
set_option linter.unusedSimpArgs false
set_option maxRecDepth 20000
namespace Go.Av
open Go Go.RowKit
/-- A view without some rows. -/
def Vw.delF (σ : Vw) (F : List Nat) : Vw := fun i => if i ∈ F then none else σ i
theorem delF_in {σ : Vw} {F : List Nat} {i : Nat} (h : i ∈ F) : (σ.delF F) i = none := by simp [Vw.delF, h]
theorem delF_out {σ : Vw} {F : List Nat} {i : Nat} (h : i ∉ F) : (σ.delF F) i = σ i := by simp [Vw.delF, h]
theorem delF_keeps {σ : Vw} {F : List Nat} : Keeps (σ.delF F) σ := fun i r h => by
  by_cases hi : i ∈ F
  · rw [delF_in hi] at h; cases h
  · rw [delF_out hi] at h; exact h
theorem delF_some {σ : Vw} {F : List Nat} {i : Nat} {r : Row} (h : (σ.delF F) i = some r) : i ∉ F ∧ σ i = some r := by
  by_cases hi : i ∈ F
  · rw [delF_in hi] at h; cases h
  · rw [delF_out hi] at h; exact ⟨hi, h⟩
section
variable {w0 : World} {σ : Vw} {α : Type}
/-- Elements in rows of their own are read where they lie. -/
theorem OAcc.to_base {ety n : Nat} {Rel : (Addr → Option Value) → List Value → α → Prop} {O : Vw → List Nat → List Value → α → Prop} (ok : OOk w0 n Rel O) {F D : List Nat} {v : Value} {xs : List α} (h : OAcc w0 ety n O σ F v xs) (hD : ∀ i, i ∈ F → i ∉ D) :
    ∃ F2, (∀ i, i ∈ F2 → i ∈ F) ∧ OAcc w0 ety n (OB Rel (Av.get w0 (σ.delF (D ++ F2)))) σ F2 v xs := by
  obtain ⟨h1, h2, ⟨rfl, rfl, rfl⟩ | ⟨b, cap, css, Fs, g1, g2, g3, g4, g5, g6, g7, g8⟩⟩ := h
  · exact ⟨[], fun i h => h, OAcc.nil⟩
  · subst g7
    refine ⟨[b], fun i h => by rw [List.mem_singleton.1 h]; exact List.mem_cons_self, h1, by simp, .inr ⟨b, cap, css, List.replicate xs.length [], g1, g2, g3, g4, g5, by simp, by simp, fun j c x f e1 e2 e3 => ?_⟩⟩
    rw [List.getElem?_replicate] at e3
    split at e3
    · cases e3
      refine ⟨rfl, ?_⟩
      have hjl : j < Fs.length := by have := (List.getElem?_eq_some_iff.1 e2).1; omega
      have e4 := List.getElem?_eq_getElem hjl
      have hO := g8 j c x _ e1 e2 e4
      have hmem : ∀ i, i ∈ Fs[j] → i ∈ Fs.flatten := fun i hi => List.mem_flatten.2 ⟨_, List.getElem_mem hjl, hi⟩
      refine ok.rel _ _ _ _ (ok.frame _ (σ.delF (D ++ [b])) _ _ _ hO fun i hi => delF_out fun hi' => ?_)
      have hif := hmem i hi
      rcases List.mem_append.1 hi' with e | e
      · exact hD i (List.mem_cons_of_mem _ hif) e
      · rw [List.mem_singleton.1 e] at hif
        exact (List.nodup_cons.1 h2).1 hif
    · cases e3
theorem pIndexAddr_mono {n : Nat} {v i : Value} {K K' : Value → Prop} (h : pIndexAddr n v i K) (hK : ∀ p, K p → K' p) : pIndexAddr n v i K' := by
  obtain ⟨a, len, cap, k, m, h1, h2, h3, h4, h5⟩ := h
  exact ⟨a, len, cap, k, m, h1, h2, h3, h4, hK _ h5⟩
end
end Go.Av
namespace Go.Proofs.YtkbhjejalkbogaaGreat
open Go Go.Av Go.RowKit

section
variable {w0 : World} {σ : Vw}

theorem spec_l1CopyA {n : Nat} {es : List Value} {d : Bool} {md : Int} {t : ByteArray} {ns : List ByteArray} {ks : List Tr} {R : Value → Vw → Prop} (h : RT (n + 1) (Av.get w0 σ) es (.mk d md t ns ks)) (hf : fitT (n + 1) (.mk d md t ns ks))
    (hR : ∀ u w F1 F2 s, Keeps σ s → OAcc w0 t_string 1 OStr s F1 u ns → OAcc w0 t_impl_Tree 5 (OT w0 n) s F2 w ks → (∀ i, i ∈ F1 → σ i = none) → (∀ i, i ∈ F2 → σ i = none) → (∀ i, i ∈ F1 → i ∉ F2) → R (.agg ⟨[.bool d, .int .i64 md, .string t, u, w]⟩) s) : AC Tryz.prog w0 n_spec_l1Copy [.agg ⟨es⟩] σ R := by
  obtain ⟨u, w, rfl, h2, h3, h4, h5⟩ := h
  obtain ⟨f1, f2, f3⟩ := hf
  refine ac_spec_l1Copy ?_
  unfold vc_spec_l1Copy
  rw [pVal_5 rfl rfl rfl h4.one h5.one]
  simp only [cellOf_agg, List.getD_cons_zero, List.getD_cons_succ]
  intro b hb1 hb2
  have kb : Keeps σ (σ.put b ⟨t_string, [], 0, (0, 0)⟩) := Keeps.put hb2
  have hb0 : ∀ i, i ∈ [b] → σ i = none := fun i hi => by rw [List.mem_singleton.1 hi]; exact hb2
  refine (OAcc.new (w0 := w0) (σ := σ) (ety := t_string) (n := 1) (O := OStr) hb1).all (ok_str w0) h4 kb.le (fun es y hy => ⟨rfl, hy⟩) (by simpa using f1) (by omega) fun u' F1 s1 k1 o1 g1 => ?_
  have K1 := k1.old kb hb0
  have hF1 := fresh_in kb hb0 g1
  rw [List.nil_append] at o1
  have hl5 := h5.le
  rw [pVal1 rfl, pVal1 rfl, pVal1 rfl, pVal1 (OSl.one' o1.osl), pVal_5 rfl rfl rfl (OSl.one' o1.osl) rfl]
  refine loop_rule (m := ks.length) (fun m l s => ∃ (j : Nat) (v' : Value) (F2 : List Nat), m + j = ks.length ∧ Keeps σ s ∧ OAcc w0 t_string 1 OStr s F1 u' ns ∧ OAcc w0 t_impl_Tree 5 (OT w0 n) s F2 v' (ks.take j) ∧ (∀ i, i ∈ F2 → σ i = none) ∧ (∀ i, i ∈ F1 → i ∉ F2) ∧
      l = [.int .i64 (j : Nat), .bool d, .int .i64 md, .string t, u, w, .bool false, .int .i64 0, .string ⟨#[]⟩, .slice none 0 0, .slice none 0 0, .bool d, .int .i64 md, .string t, u', v']) ?_
    ⟨0, _, [], by omega, K1, o1, OAcc.nil, by simp, by simp, rfl⟩
  rintro m l s L ⟨j, v', F2, hm, ks', p1, p2, hF2, hd, rfl⟩ hL
  simp only [vget, List.getD_cons_zero, List.getD_cons_succ]
  have h5' := h5.mono ks'.le fun es x => mono_rt n _ _ es x ks'.le
  rw [h5'.len, pBin_lt, pIf_d]
  refine ⟨fun hi => ?_, fun hi => ?_⟩
  · have hx := List.getElem?_eq_getElem (show j < ks.length by omega)
    generalize hxi : ks[j]'(by omega) = y at hx
    refine h5'.at hx fun g hg => ?_
    refine spec_l1Copy n hg (f3 y (List.mem_of_getElem? hx)) fun es3 F3 s3 k3 o3 g3 => ?_
    obtain ⟨a, b', c, d', e, rfl, _, hpv⟩ := RT.five ((ok_rt w0 n).rel _ _ _ _ o3)
    rw [hpv]
    simp only [cellOf_agg, List.getD_cons_zero, List.getD_cons_succ]
    have p2' := p2.frame (ok_rt w0 n) (k3.but_at fun b hb => (p2.dom (ok_rt w0 n) b hb).2)
    have p1' := p1.frame (ok_str w0) (k3.but_at fun b hb => (p1.dom (ok_str w0) b hb).2)
    refine p2'.one (ok_rt w0 n) o3 (fun i hi hi' => (p2.dom (ok_rt w0 n) i hi').2 (g3 i hi)) (by rw [List.length_take]; omega) (by omega) fun v4 F4 s4 k4 o4 g4 => ?_
    rw [pVal1 (OSl.one' o4.osl), pBin_add (by omega)]
    have K3 := ks'.trans k3
    have hF3 : ∀ i, i ∈ F3 → σ i = none := fun i hi => none_at ks' (g3 i hi)
    refine hL _ _ (m - 1) (by omega) ⟨j + 1, v4, F4, by omega, k4.old K3 hF2, p1'.frame (ok_str w0) (k4.at (fun i hi => (p1'.dom (ok_str w0) i hi).2) hd), ?_, fun i hi => ?_, fun i hi hi' => ?_, rfl⟩
    · rw [List.take_add_one, hx]; exact o4
    · rcases g4 i hi with h | h | h
      · exact hF2 i h
      · exact hF3 i h
      · exact none_at K3 h
    · rcases g4 i hi' with h | h | h
      · exact hd i hi h
      · exact (p1.dom (ok_str w0) i hi).2 (g3 i h)
      · exact (p1'.dom (ok_str w0) i hi).2 h
  · have e : j = ks.length := by omega
    subst e
    rw [List.take_length] at p2
    rw [pVal_5 rfl rfl rfl (OSl.one' p1.osl) (OSl.one' p2.osl)]
    exact hR u' v' F1 F2 s ks' p1 p2 hF1 hF2 hd

/-- A tree in rows of our own, beside a reader. -/
def SP (w0 : World) (σ : Vw) (b q N : Nat) (s : Vw) (u w : Value) (ns : List ByteArray) (ks : List Tr) : Prop := ∃ F1 F2, RD w0 s b q ∧ Keeps (σ.del b) (s.del b) ∧ (∀ i, i ∈ F1 → (σ.del b) i = none ∧ i ≠ b) ∧ (∀ i, i ∈ F2 → (σ.del b) i = none ∧ i ≠ b) ∧ (∀ i, i ∈ F1 → i ∉ F2) ∧
  OAcc w0 t_string 1 OStr s F1 u ns ∧ OAcc w0 t_impl_Tree 5 (OB (RT N) (Av.get w0 (s.delF (b :: (F1 ++ F2))))) s F2 w ks
theorem SP.next {b q q' N : Nat} {s s' : Vw} {u w : Value} {ns : List ByteArray} {ks : List Tr} (h : SP w0 σ b q N s u w ns ks) (hrd : RD w0 s' b q') (k : Keeps (s.del b) (s'.del b)) : SP w0 σ b q' N s' u w ns ks := by
  obtain ⟨F1, F2, h1, h2, h3, h4, h5, h6, h7⟩ := h
  have okB := ok_base (rok_rt N) w0 (Av.get w0 (s.delF (b :: (F1 ++ F2))))
  have kp : ∀ i, i ≠ b → s i ≠ none → s' i = s i := fun i hi hn => by
    cases hs : s i with
    | none => exact absurd hs hn
    | some r => exact keeps_out k hi hs
  refine ⟨F1, F2, hrd, h2.trans k, h3, h4, h5, h6.frame (ok_str w0) fun i hi => kp i (h3 i hi).2 (h6.dom (ok_str w0) i hi).2, ?_⟩
  refine OAcc.rebase (rok_rt N) (OAcc.frame okB h7 fun i hi => kp i (h4 i hi).2 (h7.dom okB i hi).2) (Keeps.le fun i r hi => ?_)
  obtain ⟨e1, e2⟩ := delF_some hi
  rw [delF_out e1]
  exact keeps_out k (fun e => e1 (by rw [e]; exact List.mem_cons_self)) e2
theorem SP.rd {b q N : Nat} {s : Vw} {u w : Value} {ns : List ByteArray} {ks : List Tr} (h : SP w0 σ b q N s u w ns ks) : RD w0 s b q := by obtain ⟨F1, F2, h1, _⟩ := h; exact h1
theorem SP.keeps {b q N : Nat} {s : Vw} {u w : Value} {ns : List ByteArray} {ks : List Tr} (h : SP w0 σ b q N s u w ns ks) : Keeps (σ.del b) (s.del b) := by obtain ⟨F1, F2, h1, h2, _⟩ := h; exact h2
/-- It is a tree. -/
theorem SP.tree {b q N : Nat} {s : Vw} {u w : Value} {ns : List ByteArray} {ks : List Tr} (h : SP w0 σ b q N s u w ns ks) {d : Bool} {m : Int} {t : ByteArray} (hm : -9223372036854775808 ≤ m ∧ m ≤ 9223372036854775807) (ht : t.size ≤ 9223372036854775807) :
    RT (N + 1) (Av.get w0 (s.del b)) [.bool d, .int .i64 m, .string t, u, w] (.mk d m t ns ks) := by
  obtain ⟨F1, F2, h1, h2, h3, h4, h5, h6, h7⟩ := h
  have okB := ok_base (rok_rt N) w0 (Av.get w0 (s.delF (b :: (F1 ++ F2))))
  refine ⟨u, w, rfl, hm, ht, (h6.frame (σ' := s.del b) (ok_str w0) fun i hi => del_ne (h3 i hi).2).osl.rel (ok_str w0), ?_⟩
  refine RSl.unbase (rok_rt N) ((OAcc.osl (OAcc.frame (σ' := s.del b) okB h7 fun i hi => del_ne (h4 i hi).2)).rel okB) (Keeps.le fun i r hi => ?_)
  obtain ⟨e1, e2⟩ := delF_some hi
  rw [del_ne fun e => e1 (by rw [e]; exact List.mem_cons_self)]; exact e2
theorem SP.ones {b q N : Nat} {s : Vw} {u w : Value} {ns : List ByteArray} {ks : List Tr} (h : SP w0 σ b q N s u w ns ks) : u.oneCell' = true ∧ w.oneCell' = true := by
  obtain ⟨F1, F2, h1, h2, h3, h4, h5, h6, h7⟩ := h
  exact ⟨OSl.one' h6.osl, OSl.one' h7.osl⟩
/-- A name and an empty part are added. -/
theorem SP.name {b q N : Nat} {s : Vw} {u w : Value} {ns : List ByteArray} {ks : List Tr} (h : SP w0 σ b q N s u w ns ks) {nm : ByteArray} (hn : nm.size ≤ 1000000) (hl : ns.length ≤ 100000000000) {K : Value → Vw → Prop}
    (hK : ∀ u' s', SP w0 σ b q N s' u' w (ns ++ [nm]) ks → K u' s') : allOne [.string nm] ∧ pAppend w0 t_string 1 16 u 1 [.string nm] s K := by
  obtain ⟨F1, F2, h1, h2, h3, h4, h5, h6, h7⟩ := h
  have okB := ok_base (rok_rt N) w0 (Av.get w0 (s.delF (b :: (F1 ++ F2))))
  refine h6.one (ok_str w0) (f := []) (y := nm) ⟨rfl, rfl, by omega⟩ (fun i hi => by cases hi) (by omega) (by omega) fun u' F1' s' k o f => ?_
  have hbF : b ∉ F1 := fun hb => (h3 b hb).2 rfl
  have hsb : s' b = s b := by
    cases hb : s b with
    | none => exact absurd hb h1.at
    | some r => exact k b r hb hbF
  have hsk : Keeps (σ.del b) (s'.del b) := fun i r hi => by
    obtain ⟨e1, e2⟩ := del_some hi
    have e3 := h2 i r hi
    rw [del_ne e1] at e3 ⊢
    exact k i r e3 fun hf => by rw [(h3 i hf).1] at hi; cases hi
  have hF1' : ∀ i, i ∈ F1' → (σ.del b) i = none ∧ i ≠ b := fun i hi => by
    rcases f i hi with e | e | e
    · exact h3 i e
    · cases e
    · have hib : i ≠ b := fun e' => h1.at (e' ▸ e)
      refine ⟨?_, hib⟩
      rw [del_ne hib]; exact none_out h2 hib e
  refine hK u' s' ⟨F1', F2, h1.keep hsb, hsk, hF1', h4, fun i hi hi' => ?_, o, ?_⟩
  · rcases f i hi with e | e | e
    · exact h5 i e hi'
    · cases e
    · exact (h7.dom okB i hi').2 e
  · refine OAcc.rebase (rok_rt N) (OAcc.frame okB h7 fun i hi => ?_) (Keeps.le fun i r hi => ?_)
    · cases hs : s i with
      | none => exact absurd hs (h7.dom okB i hi).2
      | some r => exact k i r hs fun hf => h5 i hf hi
    · obtain ⟨e1, e2⟩ := delF_some hi
      have e3 : i ∉ F1 := fun h => e1 (by simp [h])
      have e4 : i ∉ F2 := fun h => e1 (by simp [h])
      have e5 : i ≠ b := fun h => e1 (by simp [h])
      rw [delF_out]
      · exact k i r e2 e3
      · intro h
        simp only [List.mem_cons, List.mem_append] at h
        rcases h with h | h | h
        · exact e5 h
        · rcases f i h with e | e | e
          · exact e3 e
          · cases e
          · rw [e2] at e; cases e
        · exact e4 h
theorem SP.kid {b q N : Nat} {s : Vw} {u w : Value} {ns : List ByteArray} {ks : List Tr} (h : SP w0 σ b q (N + 1) s u w ns ks) (hl : ks.length ≤ 100000000000) {K : Value → Vw → Prop}
    (hK : ∀ w' s', SP w0 σ b q (N + 1) s' u w' ns (ks ++ [zeroT]) → K w' s') : allOne [.bool false, .int .i64 0, .string ⟨#[]⟩, .slice none 0 0, .slice none 0 0] ∧ pAppend w0 t_impl_Tree 5 80 w 1 [.bool false, .int .i64 0, .string ⟨#[]⟩, .slice none 0 0, .slice none 0 0] s K := by
  obtain ⟨F1, F2, h1, h2, h3, h4, h5, h6, h7⟩ := h
  have okB := ok_base (rok_rt (N + 1)) w0 (Av.get w0 (s.delF (b :: (F1 ++ F2))))
  refine h7.one okB (f := []) (y := zeroT) ⟨rfl, RT_zero N _⟩ (fun i hi => by cases hi) (by omega) (by omega) fun w' F2' s' k o f => ?_
  have hbF : b ∉ F2 := fun hb => (h4 b hb).2 rfl
  have hsb : s' b = s b := by
    cases hb : s b with
    | none => exact absurd hb h1.at
    | some r => exact k b r hb hbF
  have hsk : Keeps (σ.del b) (s'.del b) := fun i r hi => by
    obtain ⟨e1, e2⟩ := del_some hi
    have e3 := h2 i r hi
    rw [del_ne e1] at e3 ⊢
    exact k i r e3 fun hf => by rw [(h4 i hf).1] at hi; cases hi
  have hF2' : ∀ i, i ∈ F2' → (σ.del b) i = none ∧ i ≠ b := fun i hi => by
    rcases f i hi with e | e | e
    · exact h4 i e
    · cases e
    · have hib : i ≠ b := fun e' => h1.at (e' ▸ e)
      refine ⟨?_, hib⟩
      rw [del_ne hib]; exact none_out h2 hib e
  refine hK w' s' ⟨F1, F2', h1.keep hsb, hsk, h3, hF2', fun i hi hi' => ?_, h6.frame (ok_str w0) fun i hi => ?_, OAcc.rebase (rok_rt (N + 1)) o (Keeps.le fun i r hi => ?_)⟩
  · rcases f i hi' with e | e | e
    · exact h5 i hi e
    · cases e
    · exact (h6.dom (ok_str w0) i hi).2 e
  · cases hs : s i with
    | none => exact absurd hs (h6.dom (ok_str w0) i hi).2
    | some r => exact k i r hs (h5 i hi)
  · obtain ⟨e1, e2⟩ := delF_some hi
    have e3 : i ∉ F1 := fun h => e1 (by simp [h])
    have e4 : i ∉ F2 := fun h => e1 (by simp [h])
    have e5 : i ≠ b := fun h => e1 (by simp [h])
    rw [delF_out]
    · exact k i r e2 e4
    · intro h
      simp only [List.mem_cons, List.mem_append] at h
      rcases h with h | h | h
      · exact e5 h
      · exact e3 h
      · rcases f i h with e | e | e
        · exact e4 e
        · cases e
        · rw [e2] at e; cases e

/-- A copy. -/
theorem copy_sp {b q n : Nat} {es : List Value} {d : Bool} {md : Int} {t : ByteArray} {ns : List ByteArray} {ks : List Tr} {N : Nat} (hrd : RD w0 σ b q) (h : RT (n + 1) (Av.get w0 (σ.del b)) es (.mk d md t ns ks)) (hf : fitT (n + 1) (.mk d md t ns ks)) (hN : n ≤ N) {R : Value → Vw → Prop}
    (hR : ∀ u w s, SP w0 σ b q N s u w ns ks → R (.agg ⟨[.bool d, .int .i64 md, .string t, u, w]⟩) s) : AC Tryz.prog w0 n_spec_l1Copy [.agg ⟨es⟩] σ R := by
  refine hrd.hide (R := fun v s => Keeps (σ.del b) s ∧ ∃ u w F1 F2, v = .agg ⟨[.bool d, .int .i64 md, .string t, u, w]⟩ ∧ OAcc w0 t_string 1 OStr s F1 u ns ∧ OAcc w0 t_impl_Tree 5 (OT w0 n) s F2 w ks ∧ (∀ i, i ∈ F1 → (σ.del b) i = none) ∧ (∀ i, i ∈ F2 → (σ.del b) i = none) ∧ (∀ i, i ∈ F1 → i ∉ F2))
    (spec_l1CopyA h hf fun u w F1 F2 s k o1 o2 f1 f2 hd => ⟨k, u, w, F1, F2, rfl, o1, o2, f1, f2, hd⟩) (fun v s k hrd' hh => ?_) fun v s h => h.1
  obtain ⟨_, u, w, F1, F2, rfl, o1, o2, f1, f2, hd⟩ := hh
  have hb1 : ∀ i, i ∈ F1 → i ≠ b := fun i hi e => (o1.dom (ok_str w0) i hi).2 (by rw [e]; exact del_at)
  have hb2 : ∀ i, i ∈ F2 → i ≠ b := fun i hi e => (o2.dom (ok_rt w0 n) i hi).2 (by rw [e]; exact del_at)
  have o1' := o1.frame (σ' := s) (ok_str w0) fun i hi => (del_ne (hb1 i hi)).symm
  have o2' := o2.frame (σ' := s) (ok_rt w0 n) fun i hi => (del_ne (hb2 i hi)).symm
  obtain ⟨F3, h3, o3⟩ := OAcc.to_base (ok_rt w0 n) (D := b :: F1) o2' fun i hi hi' => by
    rcases List.mem_cons.1 hi' with e | e
    · exact hb2 i hi e
    · exact hd i e hi
  have o4 : OAcc w0 t_impl_Tree 5 (OB (RT N) (Av.get w0 (s.delF (b :: (F1 ++ F3))))) s F3 w ks := by
    obtain ⟨g1, g2, g3 | ⟨b0, cap, css, Fs, q1, q2, q3, q4, q5, q6, q7, q8⟩⟩ := o3
    · exact ⟨g1, g2, .inl g3⟩
    · exact ⟨g1, g2, .inr ⟨b0, cap, css, Fs, q1, q2, q3, q4, q5, q6, q7, fun j c x f e1 e2 e3 => by
        have := q8 j c x f e1 e2 e3
        exact ⟨this.1, RT_le hN this.2⟩⟩⟩
  exact hR u w s ⟨F1, F3, hrd', k, fun i hi => ⟨f1 i hi, hb1 i hi⟩, fun i hi => ⟨f2 i (h3 i hi), hb2 i (h3 i hi)⟩, fun i hi hi' => hd i hi (h3 i hi'), o1', o4⟩
end
end Go.Proofs.YtkbhjejalkbogaaGreat

/- A tree that is drawn and spoilt; any tree that is drawn; what the laws on trees draw. -/
set_option linter.unusedVariables false
set_option linter.unusedSimpArgs false
set_option maxRecDepth 20000
namespace Go.Av
open Go Go.RowKit
/-- What a call leaves, with the rows that were kept from it. -/
def Vw.mergeF (σ : Vw) (F : List Nat) (σ' : Vw) : Vw := fun i => if i ∈ F then σ i else σ' i
theorem mergeF_in {σ σ' : Vw} {F : List Nat} {i : Nat} (h : i ∈ F) : σ.mergeF F σ' i = σ i := by simp [Vw.mergeF, h]
theorem mergeF_out {σ σ' : Vw} {F : List Nat} {i : Nat} (h : i ∉ F) : σ.mergeF F σ' i = σ' i := by simp [Vw.mergeF, h]
theorem delF_mergeF {σ σ' : Vw} {F : List Nat} (h : ∀ i, i ∈ F → σ' i = none) : (σ.mergeF F σ').delF F = σ' := by
  funext i
  by_cases hi : i ∈ F
  · rw [delF_in hi, h i hi]
  · rw [delF_out hi, mergeF_out hi]
theorem AC.hideF {P : Program} {w0 : World} {f : FuncId} {args : List Value} {σ : Vw} {R R' : Value → Vw → Prop} {F : List Nat} (h : AC P w0 f args (σ.delF F) R) (hR : ∀ v σ', (∀ i, i ∈ F → σ i ≠ none → σ' i = none) → R v σ' → R' v (σ.mergeF F σ')) : AC P w0 f args σ R' := by
  refine ⟨h.1, fun w hw => ?_⟩
  have hs : Sat w0 (σ.delF F) w := ⟨hw.bel, fun i r' hi => hw.row i r' (delF_keeps i r' hi)⟩
  refine (h.2 w hs).mono ?_
  rintro e w' ⟨v, σ', he, hRv, ha⟩
  have hn : ∀ i, i ∈ F → σ i ≠ none → σ' i = none := fun i hi hne => by
    cases hc : σ' i with
    | none => rfl
    | some r' =>
      rcases ha.dom i r' hc with h1 | h1
      · exact absurd (delF_in hi) h1
      · cases hs' : σ i with
        | none => exact absurd hs' hne
        | some r => have := hw.lt hs'; omega
  refine ⟨v, σ.mergeF F σ', he, hR v σ' hn hRv, ⟨⟨ha.sat.bel, fun i r' hi => ?_⟩, ha.size, fun i hi hni => ?_, fun i r' hi => ?_⟩⟩
  · by_cases e : i ∈ F
    · rw [mergeF_in e] at hi
      obtain ⟨h1, cur, h2, h3⟩ := hw.row i _ hi
      exact ⟨h1, cur, (ha.fr i (hw.lt hi) (delF_in e)).trans h2, h3⟩
    · rw [mergeF_out e] at hi
      exact ha.sat.row i r' hi
  · refine ha.fr i hi ?_
    by_cases e : i ∈ F
    · exact delF_in e
    · rw [delF_out e]; exact hni
  · by_cases e : i ∈ F
    · rw [mergeF_in e] at hi; exact .inl (by rw [hi]; simp)
    · rw [mergeF_out e] at hi
      rcases ha.dom i r' hi with h1 | h1
      · exact .inl (by rw [delF_out e] at h1; exact h1)
      · exact .inr h1
theorem del_delF {σ : Vw} {F : List Nat} {b : Nat} : (σ.delF F).del b = σ.delF (b :: F) := by
  funext i
  by_cases e : i = b
  · subst e; rw [del_at, delF_in List.mem_cons_self]
  · rw [del_ne e]
    by_cases hi : i ∈ F
    · rw [delF_in hi, delF_in (List.mem_cons_of_mem _ hi)]
    · rw [delF_out hi, delF_out (by simp [e, hi])]
end Go.Av
namespace Go.Proofs.YtkbhjejalkbogaaGreat
open Go Go.Av Go.RowKit

theorem sumBy_set {α : Type} {f : α → Nat} : ∀ {l : List α} {j : Nat} {x y : α}, l[j]? = some x → sumBy f (l.set j y) + f x = sumBy f l + f y
  | a :: r, 0, x, y, h => by
    simp at h; subst h
    simp only [List.set_cons_zero, sumBy]; omega
  | a :: r, j + 1, x, y, h => by
    have := sumBy_set (f := f) (l := r) (y := y) (show r[j]? = some x by simpa using h)
    simp only [List.set_cons_succ, sumBy]; omega
  | [], j, x, y, h => by simp at h
theorem kdW_more {n m : Nat} {ks : List Tr} (h : ∀ k, k ∈ ks → IsT n k) (hm : n ≤ m) : kdW m ks = kdW n ks := by
  unfold kdW
  rw [sumBy_congr fun k hk => sz_more (h k hk) hm]

theorem RT_down : ∀ (n m : Nat) (rd : Addr → Option Value) (es : List Value) (x : Tr), RT m rd es x → IsT n x → RT n rd es x
  | 0, _, _, _, _, _, ⟨_, _, h⟩ => h.elim
  | n + 1, 0, _, _, _, h, _ => h.elim
  | n + 1, m + 1, rd, es, .mk d mo t ns ks, h, hs => by
    obtain ⟨u, w, h1, h2, h3, h4, A, cap, e1, e2, e3⟩ := h
    refine ⟨u, w, h1, h2, h3, h4, A, cap, e1, e2, fun j y hj => ?_⟩
    obtain ⟨a, es', q1, q2, q3, q4⟩ := e3 j y hj
    exact ⟨a, es', q1, q2, q3, RT_down n m rd es' y q4 (isT_kid hs (List.mem_of_getElem? hj))⟩

section
variable {w0 : World} {σ : Vw}

def VSW (w0 : World) (pb x0 x1 x2 x3 x4 : Value) (s : Vw) (R : Value → Vw → Prop) : Prop :=
  AC Tryz.prog w0 n_p_spec_l1Rd_pick [pb, .int .i64 8] s (fun v16 s17 => pBin Tryz.prog 3 .eql v16 (.int .i64 0) (fun v18 => pIf v18 (pVal false 1 (.int .i64 (-1)) (pVal false 1 (.int .i64 7) (pVal false 1 (.int .i64 8) (pNew w0 t_int [.int .i64 (-1), .int .i64 7, .int .i64 8] s17 (fun n19 s20 => AC Tryz.prog w0 n_p_spec_l1Rd_pick [pb, .int .i64 3] s20 (fun v21 s22 => pIndexAddr 1 (.slice (some (Addr.mk n19 0 none)) 3 3) v21 (fun v23 => pLoad w0 1 v23 s22 (fun g24 => pVal false 1 (g24 0) (pVal true 5 (.agg (⟨[x0, g24 0, x2, x3, x4]⟩)) (R (.agg (⟨[x0, g24 0, x2, x3, x4]⟩)) s22)))))))))) (pBin Tryz.prog 3 .eql v16 (.int .i64 1) (fun v25 => pIf v25 (pUn UnOp.not (x0) (fun v26 => pVal false 1 v26 (pVal true 5 (.agg (⟨[v26, x1, x2, x3, x4]⟩)) (R (.agg (⟨[v26, x1, x2, x3, x4]⟩)) s17)))) (pBin Tryz.prog 3 .eql v16 (.int .i64 2) (fun v27 => pIf v27 (pBin Tryz.prog t_string .add (x2) (.string ({ data := #[120] })) (fun v28 => pVal false 1 v28 (pVal true 5 (.agg (⟨[x0, x1, v28, x3, x4]⟩)) (R (.agg (⟨[x0, x1, v28, x3, x4]⟩)) s17)))) (pBin Tryz.prog 3 .eql v16 (.int .i64 3) (fun v29 => pIf v29 (pVal false 1 (.string ({ data := #[122, 122] })) (pVal false 1 (.string ({ data := #[] })) (pVal false 1 (.string ({ data := #[97] })) (pVal false 1 (.string ({ data := #[90] })) (pVal false 1 (.string ({ data := #[116, 111, 111, 108, 111, 110, 103] })) (pNew w0 t_string ([.string ({ data := #[122, 122] }), .string ({ data := #[] }), .string ({ data := #[97] }), .string ({ data := #[90] }), .string ({ data := #[116, 111, 111, 108, 111, 110, 103] })]) s17 (fun n30 s31 => AC Tryz.prog w0 n_p_spec_l1Rd_of [pb, .slice (some (Addr.mk n30 0 none)) 5 5] s31 (fun v32 s33 => pVal false 1 v32 ((allOne [v32]) ∧ (pAppend w0 t_string 1 16 (x3) 1 [v32] s33 (fun v34 s35 => pVal false 1 v34 (pVal true 5 (.agg (⟨[.bool false, .int .i64 0, .string ({ data := #[] }), .slice none 0 0, .slice none 0 0]⟩)) ((allOne ([.bool false, .int .i64 0, .string ({ data := #[] }), .slice none 0 0, .slice none 0 0])) ∧ (pAppend w0 t_impl_Tree 5 80 (x4) 1 ([.bool false, .int .i64 0, .string ({ data := #[] }), .slice none 0 0, .slice none 0 0]) s35 (fun v36 s37 => pVal false 1 v36 (pVal true 5 (.agg (⟨[x0, x1, x2, v34, v36]⟩)) (R (.agg (⟨[x0, x1, x2, v34, v36]⟩)) s37))))))))))))))))) (pBin Tryz.prog 3 .eql v16 (.int .i64 4) (fun v38 => pIf v38 (pVal false 1 (.string ({ data := #[122, 122, 122] })) ((allOne ([.string ({ data := #[122, 122, 122] })])) ∧ (pAppend w0 t_string 1 16 (x3) 1 ([.string ({ data := #[122, 122, 122] })]) s17 (fun v39 s40 => pVal false 1 v39 (pVal true 5 (.agg (⟨[x0, x1, x2, v39, x4]⟩)) (R (.agg (⟨[x0, x1, x2, v39, x4]⟩)) s40)))))) (pBin Tryz.prog 3 .eql v16 (.int .i64 5) (fun v41 => pIf v41 (AC Tryz.prog w0 n_p_spec_l1Rd_pick [pb, .int .i64 2] s17 (fun v42 s43 => pBin Tryz.prog 3 .add (.int .i64 24) v42 (fun v44 => AC Tryz.prog w0 n_spec_l1Many ([.string ({ data := #[100] }), v44]) s43 (fun v45 s46 => pVal false 1 v45 (pVal true 5 (.agg (⟨[x0, x1, v45, x3, x4]⟩)) (R (.agg (⟨[x0, x1, v45, x3, x4]⟩)) s46)))))) (pBin Tryz.prog 3 .eql v16 (.int .i64 6) (fun v47 => pIf v47 (pLoop (fun l48 K49 s50 => AC Tryz.prog w0 n_p_spec_l1Rd_pick [vget l48 0, .int .i64 2] s50 (fun v51 s52 => pBin Tryz.prog 3 .add (.int .i64 4) v51 (fun v53 => pBin Tryz.prog 3 .lss (vget l48 1) v53 (fun v54 => pIf v54 (pVal false 1 (.string ({ data := #[110] })) (pNew w0 t_string ([.string ({ data := #[110] })]) s52 (fun n55 s56 => pVal true 5 (.agg (⟨[vget l48 7, vget l48 8, vget l48 9, vget l48 10, vget l48 11]⟩)) (pNew w0 t_impl_Tree [vget l48 7, vget l48 8, vget l48 9, vget l48 10, vget l48 11] s56 (fun n57 s58 => pVal false 1 (.bool true) (pVal false 1 (.slice (some (Addr.mk n55 0 none)) 1 1) (pVal false 1 (.slice (some (Addr.mk n57 0 none)) 1 1) (pVal true 5 (.agg (⟨[.bool true, .int .i64 0, .string ({ data := #[] }), .slice (some (Addr.mk n55 0 none)) 1 1, .slice (some (Addr.mk n57 0 none)) 1 1]⟩)) (pBin Tryz.prog 3 .add (vget l48 1) (.int .i64 1) (fun v59 => K49 AX.normal ([vget l48 0, v59, vget l48 2, vget l48 3, vget l48 4, vget l48 5, vget l48 6, .bool true, .int .i64 0, .string ({ data := #[] }), .slice (some (Addr.mk n55 0 none)) 1 1, .slice (some (Addr.mk n57 0 none)) 1 1]) s58)))))))))) (K49 (AX.exit 3) [vget l48 0, vget l48 1, vget l48 2, vget l48 3, vget l48 4, vget l48 5, vget l48 6, vget l48 7, vget l48 8, vget l48 9, vget l48 10, vget l48 11] s52))))) ([pb, .int .i64 0, .bool false, .int .i64 0, .string ({ data := #[] }), .slice none 0 0, .slice none 0 0, x0, x1, x2, x3, x4]) s17 (fun x60 l61 s62 => match x60 with | .normal => pVal true 5 (.agg (⟨[vget l61 7, vget l61 8, vget l61 9, vget l61 10, vget l61 11]⟩)) (R (.agg (⟨[vget l61 7, vget l61 8, vget l61 9, vget l61 10, vget l61 11]⟩)) s62) | .ret => R (.agg (⟨[vget l61 2, vget l61 3, vget l61 4, vget l61 5, vget l61 6]⟩)) s62 | .exit i63 => (match Nat.beq i63 3 with | true => pVal true 5 (.agg (⟨[vget l61 7, vget l61 8, vget l61 9, vget l61 10, vget l61 11]⟩)) (R (.agg (⟨[vget l61 7, vget l61 8, vget l61 9, vget l61 10, vget l61 11]⟩)) s62) | false => (match Nat.beq i63 0 with | true => pVal true 5 (.agg (⟨[vget l61 7, vget l61 8, vget l61 9, vget l61 10, vget l61 11]⟩)) (R (.agg (⟨[vget l61 7, vget l61 8, vget l61 9, vget l61 10, vget l61 11]⟩)) s62) | false => False)))) (pLoop (fun l64 K65 s66 => pBin Tryz.prog 3 .lss (vget l64 0) (.int .i64 30) (fun v67 => pIf v67 (pBin Tryz.prog 3 .add (.int .i64 100) (vget l64 0) (fun v68 => AC Tryz.prog w0 n_spec_l1Dec [v68] s66 (fun v69 s70 => pBin Tryz.prog t_string .add (.string ({ data := #[122, 122] })) v69 (fun v71 => pVal false 1 v71 ((allOne [v71]) ∧ (pAppend w0 t_string 1 16 (vget l64 9) 1 [v71] s70 (fun v72 s73 => pVal false 1 v72 (pVal true 5 (.agg (⟨[.bool false, .int .i64 0, .string ({ data := #[] }), .slice none 0 0, .slice none 0 0]⟩)) ((allOne ([.bool false, .int .i64 0, .string ({ data := #[] }), .slice none 0 0, .slice none 0 0])) ∧ (pAppend w0 t_impl_Tree 5 80 (vget l64 10) 1 ([.bool false, .int .i64 0, .string ({ data := #[] }), .slice none 0 0, .slice none 0 0]) s73 (fun v74 s75 => pVal false 1 v74 (pBin Tryz.prog 3 .add (vget l64 0) (.int .i64 1) (fun v76 => K65 AX.normal [v76, vget l64 1, vget l64 2, vget l64 3, vget l64 4, vget l64 5, vget l64 6, vget l64 7, vget l64 8, v72, v74] s75))))))))))))) (K65 (AX.exit 1) [vget l64 0, vget l64 1, vget l64 2, vget l64 3, vget l64 4, vget l64 5, vget l64 6, vget l64 7, vget l64 8, vget l64 9, vget l64 10] s66))) ([.int .i64 0, .bool false, .int .i64 0, .string ({ data := #[] }), .slice none 0 0, .slice none 0 0, x0, x1, x2, x3, x4]) s17 (fun x77 l78 s79 => match x77 with | .normal => pVal true 5 (.agg (⟨[vget l78 6, vget l78 7, vget l78 8, vget l78 9, vget l78 10]⟩)) (R (.agg (⟨[vget l78 6, vget l78 7, vget l78 8, vget l78 9, vget l78 10]⟩)) s79) | .ret => R (.agg (⟨[vget l78 1, vget l78 2, vget l78 3, vget l78 4, vget l78 5]⟩)) s79 | .exit i80 => (match Nat.beq i80 1 with | true => pVal true 5 (.agg (⟨[vget l78 6, vget l78 7, vget l78 8, vget l78 9, vget l78 10]⟩)) (R (.agg (⟨[vget l78 6, vget l78 7, vget l78 8, vget l78 9, vget l78 10]⟩)) s79) | false => (match Nat.beq i80 0 with | true => pVal true 5 (.agg (⟨[vget l78 6, vget l78 7, vget l78 8, vget l78 9, vget l78 10]⟩)) (R (.agg (⟨[vget l78 6, vget l78 7, vget l78 8, vget l78 9, vget l78 10]⟩)) s79) | false => False))))))))))))))))))

set_option maxHeartbeats 8000000 in
/-- A tree of our own is spoilt in one place. -/
theorem spoil_here {b q n : Nat} {s : Vw} {d : Bool} {m : Int} {t : ByteArray} {u w : Value} {ns : List ByteArray} {ks : List Tr} (h : SP w0 σ b q (n + 5) s u w ns ks) (hq : q ≤ 1000000) (hm : i64r m) (ht : t.size ≤ 100000000) (hk : ∀ k, k ∈ ks → IsT n k) (hx : IsT (n + 1) (.mk d m t ns ks)) (hsz : nmW ns + kdW n ks ≤ 100000000) {R : Value → Vw → Prop}
    (hR : OutTR w0 σ b (q + 15) (n + 6) (t.size + nmW ns + kdW n ks + 400) R) : VSW w0 (ptr b) (.bool d) (.int .i64 m) (.string t) u w s R := by
  unfold VSW
  have hkd : kdW (n + 5) ks = kdW n ks := kdW_more hk (by omega)
  have hl1 : ns.length ≤ 100000000 := by unfold nmW at hsz; omega
  have hl2 : ks.length ≤ 100000000 := by unfold kdW at hsz; omega
  -- what is handed back
  have fin : ∀ {s' : Vw} {q' : Nat} {d' : Bool} {m' : Int} {t' : ByteArray} {u' w' : Value} {ns' : List ByteArray} {ks' : List Tr}, SP w0 σ b q' (n + 5) s' u' w' ns' ks' → q' ≤ q + 15 → i64r m' → t'.size ≤ 200000000 → t'.size + nmW ns' + kdW (n + 5) ks' ≤ t.size + nmW ns + kdW n ks + 400 →
      pVal true 5 (.agg ⟨[.bool d', .int .i64 m', .string t', u', w']⟩) (R (.agg ⟨[.bool d', .int .i64 m', .string t', u', w']⟩) s') := fun {s' q' d' m' t' u' w' ns' ks'} h' hq' hm' ht' hsz' => by
    obtain ⟨o1, o2⟩ := h'.ones
    rw [pVal_5 rfl rfl rfl o1 o2]
    refine hR _ _ s' (h'.rd.more hq') h'.keeps (h'.tree (d := d') (m := m') (t := t') hm' (by omega)) ?_
    show t'.size + (ns'.length + sumS ns') + (ks'.length + sumBy (szT (n + 5)) ks') ≤ _
    unfold nmW kdW at hsz' ⊢
    omega
  obtain ⟨o1, o2⟩ := h.ones
  refine spec_pick (n := 8) h.rd (by omega) (by omega) fun j s1 hj hrd1 hd1 _ => ?_
  have k1 : Keeps (s.del b) (s1.del b) := by rw [hd1]; exact Keeps.refl _
  have h1 := h.next hrd1 k1
  rw [pBin_eq, pIf_d]
  refine ⟨fun _ => ?_, fun _ => ?_⟩
  · rw [pVal1 rfl, pVal1 rfl, pVal1 rfl]
    refine int_lit (xs := [-1, 7, 8]) hrd1 (by omega) (by simp) rfl rfl (K := fun x s => pVal false 1 x (pVal true 5 (.agg (⟨[.bool d, x, .string t, u, w]⟩)) (R (.agg (⟨[.bool d, x, .string t, u, w]⟩)) s))) fun x s2 hx hrd2 k2 => ?_
    rw [pVal1 rfl]
    have hx : i64r x := by simp at hx; rcases hx with rfl | rfl | rfl <;> omega
    exact fin (h1.next hrd2 k2) (by omega) hx (by omega) (by rw [hkd]; omega)
  rw [pBin_eq, pIf_d]
  refine ⟨fun _ => ?_, fun _ => ?_⟩
  · rw [pUn_not, pVal1 rfl]
    exact fin h1 (by omega) hm (by omega) (by rw [hkd]; omega)
  rw [pBin_eq, pIf_d]
  refine ⟨fun _ => ?_, fun _ => ?_⟩
  · have e1 : (⟨#[120]⟩ : ByteArray).size = 1 := rfl
    rw [pBin_cat (by rw [e1]; omega), pVal1 rfl]
    exact fin h1 (by omega) hm (by rw [ByteArray.size_append, e1]; omega) (by rw [hkd, ByteArray.size_append, e1]; omega)
  rw [pBin_eq, pIf_d]
  refine ⟨fun _ => ?_, fun _ => ?_⟩
  · rw [pVal1 rfl, pVal1 rfl, pVal1 rfl, pVal1 rfl, pVal1 rfl]
    have hsz7 : ∀ x, x ∈ [(⟨#[122, 122]⟩ : ByteArray), ⟨#[]⟩, ⟨#[97]⟩, ⟨#[90]⟩, ⟨#[116, 111, 111, 108, 111, 110, 103]⟩] → x.size ≤ 7 := by
      intro x hx
      simp at hx
      rcases hx with rfl | rfl | rfl | rfl | rfl <;> decide
    refine of_lit (xs := [(⟨#[122, 122]⟩ : ByteArray), ⟨#[]⟩, ⟨#[97]⟩, ⟨#[90]⟩, ⟨#[116, 111, 111, 108, 111, 110, 103]⟩]) hrd1 (by omega) (by simp) (fun x hx => by have := hsz7 x hx; omega) rfl rfl fun x s2 hx hrd2 k2 => ?_
    have hxs := hsz7 x hx
    rw [pVal1 rfl]
    refine (h1.next hrd2 k2).name (by omega) (by omega) fun u2 s3 h3 => ?_
    rw [pVal1 h3.ones.1, pVal_5 rfl rfl rfl rfl rfl]
    refine h3.kid (N := n + 4) (by omega) fun w2 s4 h4 => ?_
    rw [pVal1 h4.ones.2]
    exact fin h4 (by omega) hm (by omega) (by rw [nmW_snoc, kdW_snoc, hkd, sz_zero]; omega)
  rw [pBin_eq, pIf_d]
  refine ⟨fun _ => ?_, fun _ => ?_⟩
  · rw [pVal1 rfl]
    have e1 : (⟨#[122, 122, 122]⟩ : ByteArray).size = 3 := rfl
    refine h1.name (by rw [e1]; omega) (by omega) fun u2 s3 h3 => ?_
    rw [pVal1 h3.ones.1]
    exact fin h3 (by omega) hm (by omega) (by rw [nmW_snoc, hkd, e1]; omega)
  rw [pBin_eq, pIf_d]
  refine ⟨fun _ => ?_, fun _ => ?_⟩
  · refine spec_pick (n := 2) hrd1 (by omega) (by omega) fun j2 s2 hj2 hrd2 hd2 _ => ?_
    have k2 : Keeps (s1.del b) (s2.del b) := by rw [hd2]; exact Keeps.refl _
    rw [pBin_add (by omega), show (24 : Int) + (j2 : Nat) = ((24 + j2 : Nat) : Int) by omega]
    have e1 : (⟨#[100]⟩ : ByteArray).size = 1 := rfl
    refine spec_l1Many (s0 := ⟨#[100]⟩) (n := 24 + j2) (by rw [e1]; omega) (by rw [e1]; omega) (by omega) fun t2 ht2 => ?_
    rw [e1] at ht2
    rw [pVal1 rfl]
    exact fin (h1.next hrd2 k2) (by omega) hm (by omega) (by rw [hkd]; omega)
  rw [pBin_eq, pIf_d]
  refine ⟨fun _ => ?_, fun _ => ?_⟩
  · -- wrapped
    refine loop_rule (m := 5) (fun mm l st => ∃ (i q' : Nat) (d0 : Bool) (m0 : Int) (t0 : ByteArray) (u0 w0' : Value) (y : Tr), mm + i = 5 ∧ q' ≤ q + 1 + i ∧ RD w0 st b q' ∧ Keeps (σ.del b) (st.del b) ∧ RT (n + 1 + i) (Av.get w0 (st.del b)) [.bool d0, .int .i64 m0, .string t0, u0, w0'] y ∧ szT (n + 1 + i) y ≤ t.size + nmW ns + kdW n ks + 10 * i ∧
        l = [ptr b, .int .i64 (i : Nat), .bool false, .int .i64 0, .string ⟨#[]⟩, .slice none 0 0, .slice none 0 0, .bool d0, .int .i64 m0, .string t0, u0, w0']) ?_
      ⟨0, q + 1, d, m, t, u, w, _, rfl, by omega, hrd1, h1.keeps, RT_down _ _ _ _ _ (h1.tree (d := d) (m := m) (t := t) hm (by omega)) hx, by
        show t.size + (ns.length + sumS ns) + (ks.length + sumBy (szT n) ks) ≤ _
        unfold nmW kdW at *
        omega, rfl⟩
    rintro mm l st L ⟨i, q', d0, m0, t0, u0, w0', y, hmi, hq', hrd, ks0, hy, hys, rfl⟩ hL
    simp only [vget, List.getD_cons_zero, List.getD_cons_succ]
    have hy0 := hy
    obtain ⟨uu, ww, hcells, hmy, hty, hny, hky, hp5⟩ := hy.cells
    simp only [List.cons.injEq, and_true] at hcells
    obtain ⟨ec1, ec2, ec3, rfl, rfl⟩ := hcells
    have hp6 : ∀ A : Prop, pVal true 5 (.agg ⟨[.bool d0, .int .i64 m0, .string t0, u0, w0']⟩) A ↔ A := fun A => pVal_5 rfl rfl rfl hny.one hky.one
    refine spec_pick (n := 2) hrd (by omega) (by omega) fun j2 s2 hj2 hrd2 hd2 _ => ?_
    have k2 : Keeps (st.del b) (s2.del b) := by rw [hd2]; exact Keeps.refl _
    rw [pBin_add (by omega), pBin_lt, pIf_d]
    refine ⟨fun hlt => ?_, fun _ => ?_⟩
    · rw [pVal1 rfl]
      intro n1 g1 g2
      obtain ⟨hne1, hrd3, k3⟩ := hrd2.new (r := ⟨t_string, [.string ⟨#[110]⟩], 1, (0, 0)⟩) g2
      have r1 : (s2.put n1 ⟨t_string, [.string ⟨#[110]⟩], 1, (0, 0)⟩) n1 = some ⟨t_string, [.string ⟨#[110]⟩], 1, (0, 0)⟩ := put_at
      show pVal true 5 _ _
      generalize Vw.put s2 n1 _ = s3 at hrd3 k3 r1
      rw [hp6]
      intro n2 g3 g4
      obtain ⟨hne2, hrd4, k4⟩ := hrd3.new (r := ⟨t_impl_Tree, [.bool d0, .int .i64 m0, .string t0, u0, w0'], 5, (0, 0)⟩) g4
      have hn12 : n1 ≠ n2 := fun e => by rw [← e, r1] at g4; cases g4
      have r2 : (s3.put n2 ⟨t_impl_Tree, [.bool d0, .int .i64 m0, .string t0, u0, w0'], 5, (0, 0)⟩) n2 = some ⟨t_impl_Tree, [.bool d0, .int .i64 m0, .string t0, u0, w0'], 5, (0, 0)⟩ := put_at
      have r1' : (s3.put n2 ⟨t_impl_Tree, [.bool d0, .int .i64 m0, .string t0, u0, w0'], 5, (0, 0)⟩) n1 = some ⟨t_string, [.string ⟨#[110]⟩], 1, (0, 0)⟩ := by rw [put_ne hn12]; exact r1
      show pVal false 1 _ _
      generalize Vw.put s3 n2 _ = s4 at hrd4 k4 r1' r2
      rw [pVal1 rfl, pVal1 rfl, pVal1 rfl, pVal_5 rfl rfl rfl rfl rfl, pBin_add (by omega)]
      have K4 := (k2.trans k3).trans k4
      have e1 : (⟨#[110]⟩ : ByteArray).size = 1 := rfl
      have hr1 : RSl 1 RS (Av.get w0 (s4.del b)) (.slice (some ⟨n1, 0, none⟩) 1 1) [⟨#[110]⟩] := row_strs (xs := [⟨#[110]⟩]) (k := 1) g1 (by rw [del_ne hne1]; exact r1') (fun x hx => by rw [List.mem_singleton.1 hx, e1]; omega) (by simp)
      have hr2 : RSl 5 (RT (n + 1 + i)) (Av.get w0 (s4.del b)) (.slice (some ⟨n2, 0, none⟩) 1 1) [y] := by
        refine ⟨some ⟨n2, 0, none⟩, 1, rfl, by simp, fun jj x hx => ?_⟩
        have hjj : jj = 0 := by have := (List.getElem?_eq_some_iff.1 hx).1; simp at this; exact this
        subst hjj
        cases hx
        refine ⟨_, [.bool d0, .int .i64 m0, .string t0, u0, w0'], rfl, rfl, fun ii hii => ?_, mono_rt _ _ _ _ _ K4.le hy0⟩
        rw [addr_add, get_row g3 (by rw [del_ne hne2]; exact r2)]
        simp
      refine hL _ _ (mm - 1) (by omega) ⟨i + 1, q' + 1, true, 0, ⟨#[]⟩, _, _, .mk true 0 ⟨#[]⟩ [⟨#[110]⟩] [y], by omega, by omega, hrd4, ks0.trans K4, ⟨_, _, rfl, by omega, by show 0 ≤ _; omega, hr1, hr2⟩, ?_, by simp⟩
      show (0 : Nat) + (1 + (1 + 0)) + (1 + (szT (n + 1 + i) y + 0)) ≤ _
      omega
    · show pVal true 5 (.agg ⟨[.bool d0, .int .i64 m0, .string t0, u0, w0']⟩) _
      rw [hp6]
      refine hR _ y s2 (hrd2.more (by omega)) (ks0.trans k2) (RT_le (by omega) (mono_rt _ _ _ _ _ k2.le hy0)) ?_
      rw [sz_more hy0.isT (by omega)]; omega
  · -- full of names
    refine loop_rule (m := 30) (fun mm l st => ∃ (i : Nat) (u' w' : Value) (ns' : List ByteArray) (ks' : List Tr), mm + i = 30 ∧ SP w0 σ b (q + 1) (n + 5) st u' w' ns' ks' ∧ nmW ns' + kdW (n + 5) ks' ≤ nmW ns + kdW n ks + 12 * i ∧
        l = [.int .i64 (i : Nat), .bool false, .int .i64 0, .string ⟨#[]⟩, .slice none 0 0, .slice none 0 0, .bool d, .int .i64 m, .string t, u', w']) ?_ ⟨0, u, w, ns, ks, rfl, h1, by rw [hkd]; omega, rfl⟩
    rintro mm l st L ⟨i, u', w', ns', ks', hmi, hsp, hw', rfl⟩ hL
    simp only [vget, List.getD_cons_zero, List.getD_cons_succ]
    rw [pBin_lt, pIf_d]
    refine ⟨fun hlt => ?_, fun _ => ?_⟩
    · rw [pBin_add (by omega), show (100 : Int) + (i : Nat) = ((100 + i : Nat) : Int) by omega]
      refine spec_l1Dec (by omega) fun s2 k2 => ?_
      have h2 := hsp.next (hsp.rd.kept k2) (keeps_del k2)
      have hz10 := decZ_nat (100 + i)
      have hszd := (decN_size (100 + i)).2
      have hd3 : (decN (100 + i)).size ≤ 3 := by
        rw [decN, size_ofL]
        have : ∀ k : Fin 30, (decL (100 + k.val)).length ≤ 3 := by
          intro k
          rw [decL_big (by omega), decL_big (by omega), decL_small (by omega)]; simp
        exact this ⟨i, by omega⟩
      have e1 : (⟨#[122, 122]⟩ : ByteArray).size = 2 := rfl
      rw [pBin_cat (by rw [hz10, e1]; omega), pVal1 rfl]
      have hl1' : ns'.length ≤ 200000000 := by unfold nmW at hw' hsz; omega
      have hl2' : ks'.length ≤ 200000000 := by unfold kdW at hw' hsz; omega
      refine h2.name (by rw [ByteArray.size_append, hz10, e1]; omega) (by omega) fun u2 s3 h3 => ?_
      rw [pVal1 h3.ones.1, pVal_5 rfl rfl rfl rfl rfl]
      refine h3.kid (N := n + 4) (by omega) fun w2 s4 h4 => ?_
      rw [pVal1 h4.ones.2, pBin_add (by omega)]
      exact hL _ _ (mm - 1) (by omega) ⟨i + 1, u2, w2, _, _, by omega, h4, by rw [nmW_snoc, kdW_snoc, sz_zero, ByteArray.size_append, hz10, e1]; omega, by simp⟩
    · show pVal true 5 (.agg ⟨[.bool d, .int .i64 m, .string t, u', w']⟩) _
      exact fin hsp (by omega) hm (by omega) (by omega)
theorem spec_l4Spoil : ∀ (n : Nat) {σ : Vw} {b p : Nat} {es : List Value} {x : Tr} {R : Value → Vw → Prop}, RD w0 σ b p → p + 20 * n ≤ 900000 → RT n (Av.get w0 (σ.del b)) es x → szT n x ≤ 90000000 → OutTR w0 σ b (p + 20 * n) (n + 5) (szT n x + 400) R → AC Tryz.prog w0 n_spec_l4Spoil [ptr b, .agg ⟨es⟩] σ R
  | 0, _, _, _, _, _, _, _, _, h, _, _ => h.elim
  | n + 1, σ, b, p, es, .mk d m t ns ks, R, h, hp, ht, hsz, hR => by
    have ht0 := ht
    have hkT : ∀ k, k ∈ ks → IsT n k := fun k hk => isT_kid (x := .mk d m t ns ks) ht.isT hk
    obtain ⟨c0, c1, c2, c3, c4, rfl, hp5⟩ := ht.shape
    obtain ⟨u0, w0', hcells, hmr, htr, hny, hky, _⟩ := ht.cells
    have hszx : szT (n + 1) (.mk d m t ns ks) = t.size + nmW ns + kdW n ks := rfl
    rw [hszx] at hsz hR
    refine ac_spec_l4Spoil ?_
    unfold vc_spec_l4Spoil cs_spec_l4Spoil_1
    rw [hp5]
    simp only [cellOf_agg, List.getD_cons_zero, List.getD_cons_succ]
    refine copy_sp (N := n + 5) h ht0 (fit_of _ _ (by rw [hszx]; omega)) (by omega) fun u w s hsp => ?_
    obtain ⟨o1, o2⟩ := hsp.ones
    rw [pVal_5 rfl rfl rfl o1 o2]
    simp only [cellOf_agg, List.getD_cons_zero, List.getD_cons_succ]
    have hl : ∀ {K : Value → Prop}, pLen w K ↔ K (.int .i64 (ks.length : Nat)) := by
      obtain ⟨F1, F2, _, _, _, _, _, _, h7⟩ := hsp
      exact ((OAcc.osl h7).rel (ok_base (rok_rt (n + 5)) w0 _)).len
    have hl2 : ks.length ≤ 90000000 := by unfold kdW at hsz; omega
    have here : ∀ (s' : Vw) (q : Nat), SP w0 σ b q (n + 5) s' u w ns ks → q + 15 ≤ p + 20 * (n + 1) → VSW w0 (ptr b) (.bool d) (.int .i64 m) (.string t) u w s' R := fun s' q h' hq =>
      spoil_here h' (by omega) hmr (by omega) hkT ht0.isT (by omega) fun es y s'' r1 r2 r3 r4 => hR es y s'' (r1.more hq) r2 r3 r4
    rw [hl, pBin_gt, pIf_d]
    refine ⟨fun hpos => ?_, fun _ => here s p hsp (by omega)⟩
    refine spec_pick (n := 2) hsp.rd (by omega) (by omega) fun j s1 hj hrd1 hd1 _ => ?_
    have k1 : Keeps (s.del b) (s1.del b) := by rw [hd1]; exact Keeps.refl _
    have h1 := hsp.next hrd1 k1
    rw [pBin_eq, pIf_d]
    refine ⟨fun _ => ?_, fun _ => here s1 (p + 1) h1 (by omega)⟩
    rw [hl]
    refine spec_pick hrd1 (by omega) (by omega) fun k s2 hk hrd2 hd2 _ => ?_
    have k2 : Keeps (s1.del b) (s2.del b) := by rw [hd2]; exact Keeps.refl _
    obtain ⟨F1, F2, q1, q2, q3, q4, q5, q6, q7⟩ := h1.next hrd2 k2
    have okB := ok_base (rok_rt (n + 5)) w0 (Av.get w0 (s2.delF (b :: (F1 ++ F2))))
    have hkx := List.getElem?_eq_getElem hk
    generalize ks[k]'hk = y at hkx
    have hyT := hkT y (List.mem_of_getElem? hkx)
    have hym : szT n y ≤ kdW n ks := by have := sumBy_mem (f := szT n) (List.mem_of_getElem? hkx); unfold kdW; omega
    refine ((OAcc.osl q7).rel okB).at hkx fun g hg => ?_
    have hg : RT (n + 5) (Av.get w0 (s2.delF (b :: (F1 ++ F2)))) (expl g 0 5) y := hg
    have hbG : b ∉ F1 ++ F2 := fun hb => by
      rcases List.mem_append.1 hb with e | e
      · exact (q3 b e).2 rfl
      · exact (q4 b e).2 rfl
    have hrdF : RD w0 (s2.delF (F1 ++ F2)) b (p + 1 + 1) := q1.keep (delF_out hbG)
    refine AC.hideF (F := F1 ++ F2) (R := fun v s' => RD w0 s' b (p + 1 + 1 + 20 * n) ∧ Keeps (s2.delF (b :: (F1 ++ F2))) (s'.del b) ∧ ∃ ey z, v = .agg ⟨ey⟩ ∧ RT (n + 5) (Av.get w0 (s'.del b)) ey z ∧ szT (n + 5) z ≤ szT n y + 400)
      (spec_l4Spoil n hrdF (by omega) (RT_down _ _ _ _ _ (by rw [del_delF]; exact hg) hyT) (by omega) fun ey z s' r1 r2 r3 r4 => ⟨r1, by rw [← del_delF]; exact r2, ey, z, rfl, r3, r4⟩) fun v s' hn hh => ?_
    obtain ⟨r1, r2, ey, z, rfl, r3, r4⟩ := hh
    -- the rows that were kept from it come back
    have hdom : ∀ i, i ∈ F1 ++ F2 → s2 i ≠ none := fun i hi => by
      rcases List.mem_append.1 hi with e | e
      · exact (q6.dom (ok_str w0) i e).2
      · exact (q7.dom okB i e).2
    have hdm : (s2.mergeF (F1 ++ F2) s').delF (F1 ++ F2) = s' := delF_mergeF fun i hi => hn i hi (hdom i hi)
    have hmo : ∀ i, i ∉ F1 ++ F2 → (s2.mergeF (F1 ++ F2) s') i = s' i := fun i hi => mergeF_out hi
    have hmi : ∀ i, i ∈ F1 ++ F2 → (s2.mergeF (F1 ++ F2) s') i = s2 i := fun i hi => mergeF_in hi
    generalize s2.mergeF (F1 ++ F2) s' = s3 at hdm hmo hmi
    have hbase : s'.del b = s3.delF (b :: (F1 ++ F2)) := by rw [← hdm, del_delF]
    rw [hbase] at r2 r3
    have hrd3 : RD w0 s3 b (p + 1 + 1 + 20 * n) := r1.keep (hmo b hbG)
    have k23 : Keeps (s2.del b) (s3.del b) := fun i r hi => by
      obtain ⟨e1, e2⟩ := del_some hi
      rw [del_ne e1]
      by_cases hi' : i ∈ F1 ++ F2
      · rw [hmi i hi']; exact e2
      · have hib : i ∉ b :: (F1 ++ F2) := fun h => by
          rcases List.mem_cons.1 h with h | h
          · exact e1 h
          · exact hi' h
        have := r2 i r (by rw [delF_out hib]; exact e2)
        rw [delF_out hib] at this
        exact this
    have q7' : OAcc w0 t_impl_Tree 5 (OB (RT (n + 5)) (Av.get w0 (s3.delF (b :: (F1 ++ F2))))) s3 F2 w ks :=
      OAcc.rebase (rok_rt (n + 5)) (OAcc.frame okB q7 fun i hi => hmi i (List.mem_append_right _ hi)) r2.le
    have okB' := ok_base (rok_rt (n + 5)) w0 (Av.get w0 (s3.delF (b :: (F1 ++ F2))))
    have q6' : OAcc w0 t_string 1 OStr s3 F1 u ns := q6.frame (ok_str w0) fun i hi => hmi i (List.mem_append_left _ hi)
    have hr3 := r3
    obtain ⟨e0, e1, e2, e3, e4, rfl, hp6⟩ := r3.shape
    refine pIndexAddr_mono (OSl.store okB' (y := z) (new := [e0, e1, e2, e3, e4]) (OAcc.osl q7') hkx (fun f c s'' ho => ⟨ho.1, hr3⟩) rfl (K := fun s4 => pVal true 5 (.agg (⟨[.bool d, .int .i64 m, .string t, u, w]⟩)) (R (.agg (⟨[.bool d, .int .i64 m, .string t, u, w]⟩)) s4)) fun s4 k34 o4 => ?_) fun pp hh => by
      rw [hp6]
      simp only [cellOf_agg, List.getD_cons_zero, List.getD_cons_succ]
      exact hh
    rw [pVal_5 rfl rfl rfl o1 o2]
    have hbF2 : b ∉ F2 := fun h => hbG (List.mem_append_right _ h)
    have hs4b : s4 b = s3 b := by
      cases hb : s3 b with
      | none => exact absurd hb hrd3.at
      | some r => exact k34 b r hb hbF2
    have K4 : Keeps (σ.del b) (s4.del b) := fun i r hi => by
      obtain ⟨e1', e2'⟩ := del_some hi
      have e3' := (q2.trans k23) i r hi
      rw [del_ne e1'] at e3' ⊢
      exact k34 i r e3' fun hf => by rw [(q4 i hf).1] at hi; cases hi
    have hnm : RSl 1 RS (Av.get w0 (s4.del b)) u ns := (OSl.frame (σ' := s4.del b) (ok_str w0) q6'.osl fun i hi => by
      rw [del_ne (q3 i hi).2]
      cases hs : s3 i with
      | none => exact absurd hs (q6'.dom (ok_str w0) i hi).2
      | some r => exact k34 i r hs (q5 i hi)).rel (ok_str w0)
    have hkd : RSl 5 (RT (n + 5)) (Av.get w0 (s4.del b)) w (ks.set k z) := by
      refine RSl.unbase (rok_rt (n + 5)) ((OSl.frame (σ' := s4.del b) okB' o4 fun i hi => del_ne (q4 i hi).2).rel okB') (Keeps.le fun i r hi => ?_)
      obtain ⟨g1, g2⟩ := delF_some hi
      have g3 : i ≠ b := fun e => g1 (by simp [e])
      rw [del_ne g3]
      exact k34 i r g2 fun e => g1 (by simp [e])
    refine hR _ (.mk d m t ns (ks.set k z)) s4 ((hrd3.keep hs4b).more (by omega)) K4 ⟨u, w, rfl, hmr, htr, hnm, hkd⟩ ?_
    show t.size + (ns.length + sumS ns) + ((ks.set k z).length + sumBy (szT (n + 5)) (ks.set k z)) ≤ _
    have hset := sumBy_set (f := szT (n + 5)) (y := z) hkx
    have hyy : szT (n + 5) y = szT n y := sz_more hyT (by omega)
    have hkk := kdW_more hkT (show n ≤ n + 5 by omega)
    rw [List.length_set]
    unfold nmW kdW at *
    omega

end
end Go.Proofs.YtkbhjejalkbogaaGreat

/- What the laws on trees draw; trees and lists of texts compared; all paths of a tree. -/
set_option linter.unusedVariables false
set_option linter.unusedSimpArgs false
set_option maxRecDepth 20000
namespace Go.Proofs.YtkbhjejalkbogaaGreat
open Go Go.Av Go.RowKit

abbrev Bytes (w0 : World) (u : Value) (bs : List Nat) : Prop := RSl 1 RU8 (Av.get w0 (fun _ => none)) u bs
theorem Bytes.len {w0 : World} {u : Value} {bs : List Nat} (h : Bytes w0 u bs) {K : Value → Prop} : pLen u K ↔ K (.int .i64 (bs.length : Nat)) := RSl.len h

section
variable {w0 : World} {σ : Vw}

theorem draw_keeps {b : Nat} {s1 s : Vw} (h1 : s1.del b = σ) (k : Keeps (s1.del b) (s.del b)) : Keeps σ s := by rw [h1] at k; exact k.trans del_keeps
theorem wtTexts {v v' : Value} {xs ys : List ByteArray} (h : RSl 1 RS (Av.get w0 σ) v xs) (h' : RSl 1 RS (Av.get w0 σ) v' ys) {R : Value → Vw → Prop} (hR : R (.bool (decide (xs = ys))) σ) : AC Tryz.prog w0 n_laws_wtTexts [v, v'] σ R := by
  refine ac_laws_wtTexts ?_
  unfold vc_laws_wtTexts
  have hl : xs.length ≤ 9223372036854775807 := h.le
  rw [h.len, h'.len, pBin_ne, pIf_d]
  refine ⟨fun hne => ?_, fun heq => ?_⟩
  · have : xs ≠ ys := fun e => hne (by rw [e])
    simpa [this] using hR
  · have hlen : xs.length = ys.length := by omega
    refine loop_rule (m := xs.length) (fun m l s => ∃ j, s = σ ∧ m + j = xs.length ∧ xs.take j = ys.take j ∧ l = [v, v', .bool false, .int .i64 (j : Nat)]) ?_ ⟨0, rfl, by omega, by simp, rfl⟩
    rintro m l s L ⟨j, rfl, hm, ht, rfl⟩ hL
    simp only [vget, List.getD_cons_zero, List.getD_cons_succ]
    rw [h.len, pBin_lt, pIf_d]
    refine ⟨fun hj => ?_, fun hj => ?_⟩
    · have hx := List.getElem?_eq_getElem (show j < xs.length by omega)
      have hy := List.getElem?_eq_getElem (show j < ys.length by omega)
      refine RSl.at1 h hx fun g hg _ => ?_
      refine RSl.at1 h' hy fun g' hg' _ => ?_
      rw [hg, hg', pBin_sne, pIf_d]
      refine ⟨fun hne => ?_, fun heq => ?_⟩
      · have : xs ≠ ys := fun e => by subst e; exact hne rfl
        simpa [this] using hR
      · rw [pBin_add (by omega)]
        refine hL _ _ (m - 1) (by omega) ⟨j + 1, rfl, by omega, ?_, rfl⟩
        rw [List.take_add_one, List.take_add_one, hx, hy, ht, Decidable.not_not.1 heq]
    · have hj' : j = xs.length := by omega
      subst hj'
      rw [List.take_length, hlen, List.take_length] at ht
      subst ht
      simpa using hR

end
end Go.Proofs.YtkbhjejalkbogaaGreat

/- How a code is opened that came with the call. -/
set_option linter.unusedVariables false
set_option linter.unusedSimpArgs false
namespace Go.Proofs.YtkbhjejalkbogaaGreat
open Go Go.Av Go.RowKit

theorem open_byte {H : Type} {enc : TypeId × Value → H} {W : World} {spare : Nat → Bool} (fuel : Nat) (es : List Value) (y : DataW H × List MemPlace) (h : DataW.trod enc Tryz.prog W 0 spare true fuel t_uint8 es = some y) (hl : es.length = 1) : ∃ x, RU8 (Av.get W σ0) es x := by
  have hT : Tryz.prog.underlying t_uint8 = some (.int .u8) := by kernel_rfl
  obtain ⟨n, rfl, _, hw⟩ := DataW.trod_int hT h
  have e1 : IntKind.u8.min = 0 := by decide
  have e2 : IntKind.u8.max = 255 := by decide
  simp only [Lit.wf, Bool.and_eq_true, decide_eq_true_eq, e1, e2] at hw
  exact ⟨n.toNat, by rw [Int.toNat_of_nonneg hw.1], by omega⟩
end Go.Proofs.YtkbhjejalkbogaaGreat

/- 'DiffWalk': two trees in step, by either hand; the law. -/
set_option linter.unusedVariables false
set_option linter.unusedSimpArgs false
set_option maxRecDepth 20000
namespace Go.Proofs.YtkbhjejalkbogaaGreat
open Go Go.Av

noncomputable def diffX (n m : Nat) (x y : Tr) : List En := if treeOk n x = true ∧ treeOk m y = true then walkE 5 [] (some x) (some y) else []
/-- What a sound tree is. -/
theorem ok_fine {n : Nat} {x : Tr} (h : treeOk n x = true) : (∀ rd es, RT n rd es x → RT 5 rd es x) ∧ shortT 5 x ∧ cntT 5 x ≤ 30 ∧ ascT 5 x := by
  have h0 := h
  simp only [treeOk, Bool.and_eq_true, decide_eq_true_eq] at h
  obtain ⟨h1, h2, h3⟩ := sound_down5 5 n x 0 h.2.1 (by omega)
  exact ⟨h1, h2, by omega, sound_asc 5 n x 0 h.2.1⟩

section
variable {w0 : World} {σ : Vw}

theorem impl_DiffWalk {n m : Nat} {es es' : List Value} {x y : Tr} (h : RT n (Av.get w0 σ) es x) (h' : RT m (Av.get w0 σ) es' y) (hb : cntT n x ≤ 1000000000000) (hb' : cntT m y ≤ 1000000000000) {R : Value → Vw → Prop}
    (hR : ∀ v F σ', Keeps σ σ' → OSl w0 5 (OEn w0) σ' F v (diffX n m x y) → (∀ i, i ∈ F → σ i = none) → R v σ') : AC Tryz.prog w0 n_impl_DiffWalk [.agg ⟨es⟩, .agg ⟨es'⟩] σ R := by
  have h0 := h
  have h0' := h'
  obtain ⟨e0, e1, e2, e3, e4, rfl, _, hpv⟩ := RT.five h
  obtain ⟨e0', e1', e2', e3', e4', rfl, _, hpv'⟩ := RT.five h'
  refine ac_impl_DiffWalk ?_
  unfold vc_impl_DiffWalk
  rw [hpv]
  simp only [cellOf_agg, List.getD_cons_zero, List.getD_cons_succ]
  intro a ha1 ha2
  have k1 : Keeps σ (σ.put a ⟨t_impl_Tree, [e0, e1, e2, e3, e4], 5, (0, 0)⟩) := Keeps.put ha2
  have p1 := PT.new (ety := t_impl_Tree) (c := 5) h0 ha1 ha2
  rw [hpv']
  intro b hb1 hb2
  have k2 := Keeps.put (r := ⟨t_impl_Tree, [e0', e1', e2', e3', e4'], 5, (0, 0)⟩) hb2
  have p2 := PT.new (ety := t_impl_Tree) (c := 5) (mono_rt _ _ _ _ _ k1.le h0') hb1 hb2
  have p1' := p1.mono k2.le
  have K2 := k1.trans k2
  generalize hs : Vw.put _ b _ = s at k2 p2 p1' K2
  clear hs
  have no : ¬ (treeOk n x = true ∧ treeOk m y = true) → ∀ c, w0.heap.size ≤ c → s c = none → R (.slice (some ⟨c, 0, none⟩) 0 0) (s.put c ⟨t_impl_Entry, [], 0, (0, 0)⟩) := fun hno c hc1 hc2 => by
    refine hR _ [c] _ (K2.trans (Keeps.put hc2)) ?_ fun i hi => by rw [List.mem_singleton.1 hi]; exact none_old K2 hc2
    rw [diffX, if_neg hno]
    exact (OAcc.new (O := OEn w0) hc1).osl
  refine PT.load p1' fun g hg => ?_
  refine impl_TreeOk hg hb (pNotIf.2 ⟨fun hno => no (by rw [hno]; simp), fun hok => ?_⟩)
  refine PT.load p2 fun g' hg' => ?_
  refine impl_TreeOk hg' hb' (pNotIf.2 ⟨fun hno => no (by rw [hno]; simp), fun hok' => ?_⟩)
  obtain ⟨d1, x1, c1, a1⟩ := ok_fine hok
  obtain ⟨d2, x2, c2, a2⟩ := ok_fine hok'
  have down : ∀ {k : Nat} {p : Value} {z : Tr}, (∀ rd es, RT k rd es z → RT 5 rd es z) → PT k (Av.get w0 s) p z → PT 5 (Av.get w0 s) p z := fun {k p z} hd hp => by
    obtain ⟨ad, es, q1, q2, q3, q4⟩ := hp
    exact ⟨ad, es, q1, q2, q3, hd _ _ q4⟩
  refine impl_walk 5 (ps := []) (by omega) (nil_in (G := []) s (KeepsBut.refl _ _)) (a := some x) (b := some y) (down d1 p1') (down d2 p2) (fun z hz => by cases hz; exact ⟨x1, by omega, a1⟩) (fun z hz => by cases hz; exact ⟨x2, by omega, a2⟩) (fun h => by cases h.1) (by simp [sumS]) fun v G s2 k3 o2 f2 => ?_
  refine hR v G s2 (K2.trans k3) ?_ fun i hi => none_old K2 (f2 i hi)
  rw [diffX, if_pos ⟨hok, hok'⟩]
  exact o2.osl

end
end Go.Proofs.YtkbhjejalkbogaaGreat

/- Marks put in their order; the deepest of them made coarser: the pure part of 'TrailAdd'. -/
set_option linter.unusedVariables false
set_option linter.unusedSimpArgs false
namespace Go.Proofs.YtkbhjejalkbogaaGreat
open Go Go.Av

/-! ### The order of paths -/
theorem lexLt_irrefl : ∀ a : List ByteArray, lexLt a a = false
  | [] => rfl
  | a :: r => by simp [lexLt, lexLt_irrefl r]
theorem lexLt_trans : ∀ {a b c : List ByteArray}, lexLt a b = true → lexLt b c = true → lexLt a c = true
  | _, [], _, h, _ => by simp [lexLt] at h
  | _, _ :: _, [], _, h => by simp [lexLt] at h
  | [], _ :: _, _ :: _, _, _ => by simp [lexLt]
  | x :: a, y :: b, z :: c, h, h' => by
    simp only [lexLt] at h h' ⊢
    by_cases e : x = y
    · subst e
      rw [if_pos rfl] at h
      by_cases e2 : x = z
      · subst e2; rw [if_pos rfl] at h' ⊢; exact lexLt_trans h h'
      · rw [if_neg e2] at h' ⊢; exact h'
    · rw [if_neg e] at h
      by_cases e2 : y = z
      · subst e2; rw [if_neg e]; exact h
      · rw [if_neg e2] at h'
        have h3 := strLt_trans h h'
        rw [if_neg (strLt_ne h3)]; exact h3
theorem lexLt_total : ∀ {a b : List ByteArray}, lexLt a b = false → lexLt b a = false → a = b
  | [], [], _, _ => rfl
  | [], _ :: _, h, _ => by simp [lexLt] at h
  | _ :: _, [], _, h => by simp [lexLt] at h
  | x :: a, y :: b, h, h' => by
    simp only [lexLt] at h h'
    by_cases e : x = y
    · subst e
      rw [if_pos rfl] at h h'
      rw [lexLt_total h h']
    · rw [if_neg e] at h
      rw [if_neg fun h => e h.symm] at h'
      exact absurd (strLt_total h h') e

/-! ### What lies within what -/
theorem within_iff {b a : List ByteArray} : within b a = true ↔ a <+: b := by
  unfold within
  rw [decide_eq_true_iff, List.prefix_iff_eq_take]
  constructor
  · rintro ⟨_, h⟩; exact h.symm
  · intro h; exact ⟨by have := congrArg List.length h; rw [List.length_take] at this; omega, h.symm⟩
theorem within_self (a : List ByteArray) : within a a = true := within_iff.2 (List.prefix_refl a)
theorem within_trans {a b c : List ByteArray} (h : within a b = true) (h' : within b c = true) : within a c = true := within_iff.2 ((within_iff.1 h').trans (within_iff.1 h))
theorem within_len {a b : List ByteArray} (h : within b a = true) : a.length ≤ b.length := (within_iff.1 h).length_le
theorem lt_app : ∀ (a c : List ByteArray), c ≠ [] → lexLt a (a ++ c) = true
  | [], [], h => absurd rfl h
  | [], _ :: _, _ => rfl
  | x :: a, c, h => by
    rw [List.cons_append]
    simp only [lexLt, if_true]
    exact lt_app a c h
theorem within_lt {a b : List ByteArray} (h : within b a = true) : a = b ∨ lexLt a b = true := by
  obtain ⟨c, rfl⟩ := within_iff.1 h
  by_cases e : c = []
  · left; rw [e]; simp
  · exact .inr (lt_app a c e)

/-! ### A mark put in -/
def insF (m : Mk) : List Mk → List Mk
  | [] => [m]
  | x :: r => if lexLt m.1 x.1 = true then m :: x :: r else x :: insF m r
def keepM (m x : Mk) : Bool := !(m.2 && within x.1 m.1)
def markedB (l : List Mk) (p : List ByteArray) : Bool := underB l p || l.any fun x => decide (x.1 = p)
def putM (l : List Mk) (m : Mk) : List Mk := if (underB l m.1 || (!m.2 && markedB l m.1)) = true then l else insF m (l.filter (keepM m))
def AscM (l : List Mk) : Prop := l.Pairwise fun a b => lexLt a.1 b.1 = true
def NoUn (l : List Mk) : Prop := ∀ x, x ∈ l → ∀ y, y ∈ l → x.2 = true → within y.1 x.1 = true → x = y
def sumP (l : List Mk) : Nat := sumBy (fun x : Mk => x.1.length) l

theorem ins_mem {m x : Mk} : ∀ {l : List Mk}, x ∈ insF m l ↔ x = m ∨ x ∈ l
  | [] => by simp [insF]
  | y :: r => by
    simp only [insF]
    split
    · simp
    · simp only [List.mem_cons, ins_mem (l := r)]
      constructor
      · rintro (h | h | h)
        · exact .inr (.inl h)
        · exact .inl h
        · exact .inr (.inr h)
      · rintro (h | h | h)
        · exact .inr (.inl h)
        · exact .inl h
        · exact .inr (.inr h)
theorem ins_len {m : Mk} : ∀ {l : List Mk}, (insF m l).length = l.length + 1
  | [] => rfl
  | y :: r => by simp only [insF]; split <;> simp [ins_len (l := r)]
theorem ins_sum {m : Mk} : ∀ {l : List Mk}, sumP (insF m l) = m.1.length + sumP l
  | [] => by simp [insF, sumP, sumBy]
  | y :: r => by
    have := ins_sum (m := m) (l := r)
    simp only [sumP] at this
    simp only [insF]
    split
    · simp [sumP, sumBy]
    · simp only [sumP, sumBy, this]; omega
theorem ins_asc {m : Mk} : ∀ {l : List Mk}, AscM l → (∀ x, x ∈ l → x.1 ≠ m.1) → AscM (insF m l)
  | [], _, _ => by simp [insF, AscM]
  | y :: r, h, hn => by
    have h1 := List.pairwise_cons.1 h
    simp only [insF]
    by_cases c : lexLt m.1 y.1 = true
    · rw [if_pos c]
      refine List.pairwise_cons.2 ⟨fun x hx => ?_, h⟩
      rcases List.mem_cons.1 hx with e | e
      · rw [e]; exact c
      · exact lexLt_trans c (h1.1 x e)
    · rw [if_neg c]
      refine List.pairwise_cons.2 ⟨fun x hx => ?_, ins_asc h1.2 fun x hx => hn x (List.mem_cons_of_mem _ hx)⟩
      rcases ins_mem.1 hx with e | e
      · rw [e]
        cases c2 : lexLt y.1 m.1 with
        | true => rfl
        | false => exact absurd (lexLt_total c2 (by simpa using c)) (hn y List.mem_cons_self)
      · exact h1.1 x e
theorem keep_sub {m : Mk} {l : List Mk} : ∀ x, x ∈ l.filter (keepM m) → x ∈ l := fun x hx => (List.mem_filter.1 hx).1
theorem sum_filter {p : Mk → Bool} : ∀ {l : List Mk}, sumP (l.filter p) ≤ sumP l
  | [] => by simp
  | y :: r => by
    have := sum_filter (p := p) (l := r)
    simp only [sumP] at this
    rw [List.filter_cons]
    split <;> simp only [sumP, sumBy] <;> omega

/-- What a trail keeps. -/
def TrP (l : List Mk) : Prop := AscM l ∧ NoUn l
theorem put_un {l : List Mk} {m : Mk} (h : ¬ (underB l m.1 || (!m.2 && markedB l m.1)) = true) : underB l m.1 = false ∧ (m.2 = false → ∀ x, x ∈ l → x.1 ≠ m.1) := by
  simp only [Bool.or_eq_true, not_or] at h
  refine ⟨by simpa using h.1, fun hm x hx e => h.2 ?_⟩
  simp only [hm, Bool.not_false, Bool.true_and, markedB, Bool.or_eq_true, List.any_eq_true]
  exact .inr ⟨x, hx, by simp [e]⟩
theorem TrP.put {l : List Mk} {m : Mk} (h : TrP l) : TrP (putM l m) := by
  unfold putM
  split
  · exact h
  · rename_i hc
    obtain ⟨hu, hs⟩ := put_un hc
    refine ⟨ins_asc (h.1.sublist List.filter_sublist) fun x hx => ?_, fun x hx y hy h2 hw => ?_⟩
    · obtain ⟨x1, x2⟩ := List.mem_filter.1 hx
      cases hm : m.2 with
      | false => exact hs hm x x1
      | true =>
        intro e
        simp [keepM, hm, e, within_self] at x2
    · rcases ins_mem.1 hx with e | e <;> rcases ins_mem.1 hy with e' | e'
      · rw [e, e']
      · exfalso
        rw [e] at h2 hw
        have := (List.mem_filter.1 e').2
        simp [keepM, h2, hw] at this
      · exfalso
        rw [e'] at hw
        obtain ⟨j, hj⟩ := List.getElem?_of_mem (keep_sub x e)
        rw [under_hit hj h2 hw] at hu; cases hu
      · exact h.2 x (keep_sub x e) y (keep_sub y e') h2 hw
theorem put_len {l : List Mk} {m : Mk} : (putM l m).length ≤ l.length + 1 := by
  unfold putM
  split
  · omega
  · rw [ins_len]; have := List.length_filter_le (keepM m) l; omega
theorem put_mem {l : List Mk} {m x : Mk} (h : x ∈ putM l m) : x = m ∨ x ∈ l := by
  unfold putM at h
  split at h
  · exact .inr h
  · rcases ins_mem.1 h with e | e
    · exact .inl e
    · exact .inr (keep_sub x e)
theorem put_sum {l : List Mk} {m : Mk} : sumP (putM l m) ≤ sumP l + m.1.length := by
  unfold putM
  split
  · omega
  · rw [ins_sum]; have := sum_filter (p := keepM m) (l := l); omega

/-! ### The deepest of the marks -/
def lenAt (l : List Mk) (j : Nat) : Nat := match l[j]? with
  | some x => x.1.length
  | none => 0
def bestTo (l : List Mk) : Nat → Nat
  | 0 => 0
  | k + 1 => if lenAt l (bestTo l k) ≤ lenAt l k then k else bestTo l k
theorem best_lt {l : List Mk} (h : l ≠ []) : ∀ {k : Nat}, k ≤ l.length → bestTo l k < l.length
  | 0, _ => by have := List.length_pos_iff.2 h; simpa [bestTo] using this
  | k + 1, hk => by
    simp only [bestTo]
    split
    · omega
    · exact best_lt h (by omega)
theorem best_ge {l : List Mk} : ∀ {k j : Nat}, j < k → lenAt l j ≤ lenAt l (bestTo l k)
  | 0, _, h => by omega
  | k + 1, j, h => by
    simp only [bestTo]
    by_cases e : j = k
    · subst e
      split
      · exact Nat.le_refl _
      · omega
    · have := best_ge (l := l) (k := k) (j := j) (by omega)
      split <;> omega
theorem best_one {l : List Mk} : bestTo l 1 = 0 := by simp [bestTo]
def bestM (l : List Mk) : Mk := (l[bestTo l l.length]?).getD ([], false)
theorem best_at {l : List Mk} (h : l ≠ []) : l[bestTo l l.length]? = some (bestM l) := by
  have := best_lt h (Nat.le_refl _)
  rw [bestM, List.getElem?_eq_getElem this]; rfl
theorem best_pos {l : List Mk} (ha : AscM l) (hl : 2 ≤ l.length) : 0 < (bestM l).1.length := by
  have hne : l ≠ [] := fun e => by simp [e] at hl
  have h1 := best_ge (l := l) (k := l.length) (j := 1) (by omega)
  have hb := best_at hne
  have h01 := List.pairwise_iff_getElem.1 ha 0 1 (by omega) (by omega) (by omega)
  have hx := List.getElem?_eq_getElem (show 1 < l.length by omega)
  rw [lenAt, lenAt, hx, hb] at h1
  simp only at h1
  have : (l[1]).1 ≠ [] := fun e => by
    rw [e] at h01
    simp [lexLt] at h01
  have := List.length_pos_iff.2 this
  omega
def upM (x : Mk) : Mk := (x.1.take (x.1.length - 1), true)
def coarseM (l : List Mk) : List Mk := putM l (upM (bestM l))
def delBest (l : List Mk) : List Mk := l.take (bestTo l l.length) ++ l.drop (bestTo l l.length + 1)
theorem del_split {l : List Mk} (h : l ≠ []) : l = l.take (bestTo l l.length) ++ bestM l :: l.drop (bestTo l l.length + 1) := by
  have h1 := best_at h
  obtain ⟨h2, h3⟩ := List.getElem?_eq_some_iff.1 h1
  have := List.take_append_drop (bestTo l l.length) l
  rw [List.drop_eq_getElem_cons h2, h3] at this
  exact this.symm
theorem del_mem {l : List Mk} : ∀ x, x ∈ delBest l → x ∈ l := fun x hx => by
  rcases List.mem_append.1 hx with h | h
  · exact List.mem_of_mem_take h
  · exact List.mem_of_mem_drop h
theorem sumP_app {a b : List Mk} : sumP (a ++ b) = sumP a + sumP b := by
  induction a with
  | nil => simp [sumP, sumBy]
  | cons x r ih => simp only [sumP] at ih; simp only [List.cons_append, sumP, sumBy, ih]; omega
theorem del_sum {l : List Mk} (h : l ≠ []) : sumP l = sumP (delBest l) + (bestM l).1.length := by
  conv => lhs; rw [del_split h]
  rw [delBest, sumP_app, sumP_app]
  simp only [sumP, sumBy]; omega
theorem del_len {l : List Mk} (h : l ≠ []) : (delBest l).length + 1 = l.length := by
  have := congrArg List.length (del_split h)
  simp only [delBest, List.length_append, List.length_cons] at *
  omega
theorem up_within {x : Mk} : within x.1 (upM x).1 = true := within_iff.2 (List.take_prefix _ _)
theorem up_len {x : Mk} (h : 0 < x.1.length) : (upM x).1.length + 1 = x.1.length := by simp only [upM, List.length_take]; omega

theorem coarse_under {l : List Mk} (h : TrP l) (hl : 2 ≤ l.length) : underB l (upM (bestM l)).1 = false := by
  have hne : l ≠ [] := fun e => by simp [e] at hl
  have hp := best_pos h.1 hl
  cases c : underB l (upM (bestM l)).1 with
  | false => rfl
  | true =>
    exfalso
    simp only [underB, List.any_eq_true, Bool.and_eq_true] at c
    obtain ⟨y, hy, y2, yw⟩ := c
    have := h.2 y hy _ (List.mem_of_getElem? (best_at hne)) y2 (within_trans up_within yw)
    subst this
    have := within_len yw
    have := up_len hp
    omega
theorem coarse_eq {l : List Mk} (h : TrP l) (hl : 2 ≤ l.length) : coarseM l = putM (delBest l) (upM (bestM l)) := by
  have hne : l ≠ [] := fun e => by simp [e] at hl
  have hu := coarse_under h hl
  have hu2 : underB (delBest l) (upM (bestM l)).1 = false := by
    cases c : underB (delBest l) (upM (bestM l)).1 with
    | false => rfl
    | true =>
      simp only [underB, List.any_eq_true] at c
      obtain ⟨y, hy, hc⟩ := c
      simp only [Bool.and_eq_true] at hc
      obtain ⟨j, hj⟩ := List.getElem?_of_mem (del_mem y hy)
      rw [under_hit hj hc.1 hc.2] at hu; cases hu
  have hk : keepM (upM (bestM l)) (bestM l) = false := by simp [keepM, up_within, show (upM (bestM l)).2 = true from rfl]
  unfold coarseM putM
  rw [hu, hu2]
  simp only [show (upM (bestM l)).2 = true from rfl, Bool.not_true, Bool.false_and, Bool.or_self]
  rw [if_neg (by simp), if_neg (by simp)]
  have hf : l.filter (keepM (upM (bestM l))) = (delBest l).filter (keepM (upM (bestM l))) := by
    have h1 := congrArg (fun z => z.filter (keepM (upM (bestM l)))) (del_split hne)
    simp only [List.filter_append, List.filter_cons, hk] at h1
    rw [delBest, List.filter_append]
    exact h1
  rw [hf]
theorem coarse_sum {l : List Mk} (h : TrP l) (hl : 2 ≤ l.length) : sumP (coarseM l) < sumP l := by
  have hne : l ≠ [] := fun e => by simp [e] at hl
  rw [coarse_eq h hl]
  have h1 := put_sum (l := delBest l) (m := upM (bestM l))
  have h2 := del_sum hne
  have h3 := up_len (best_pos h.1 hl)
  omega

/-- Coarser and coarser, till it is not too long. -/
inductive Lp : List Mk → List Mk → Prop
  | stop {l : List Mk} (h : l.length ≤ 6) : Lp l l
  | step {l r : List Mk} (h : 6 < l.length) (h' : Lp (coarseM l) r) : Lp l r
theorem trail_TrP {l : List Mk} (h : trailOk l = true) : TrP l ∧ l.length ≤ 6 ∧ ∀ x, x ∈ l → markOkB x = true := by
  unfold trailOk at h
  simp only [Bool.and_eq_true, decide_eq_true_iff] at h
  obtain ⟨hg, hl⟩ := h
  have each : ∀ (j : Nat) (x : Mk), l[j]? = some x → markOkB x = true ∧ afterB l j x = true ∧ underB (l.take j) x.1 = false := fun j x hx => by
    have := hg j x hx
    simp only [goodAt, Bool.and_eq_true] at this
    exact ⟨this.1, this.2.1, by simpa using this.2.2⟩
  have asc : AscM l := by
    have : ∀ (j : Nat) (x y : Mk), l[j]? = some x → l[j + 1]? = some y → lexLt x.1 y.1 = true := fun j x y hx hy => by
      have := (each (j + 1) y hy).2.1
      simpa [afterB, hx] using this
    clear hg hl each
    induction l with
    | nil => exact List.Pairwise.nil
    | cons a r ih =>
      have ih' := ih fun j x y hx hy => this (j + 1) x y (by simpa using hx) (by simpa using hy)
      refine List.pairwise_cons.2 ⟨fun z hz => ?_, ih'⟩
      cases r with
      | nil => cases hz
      | cons b r =>
        have hab := this 0 a b rfl rfl
        rcases List.mem_cons.1 hz with e | e
        · rw [e]; exact hab
        · exact lexLt_trans hab ((List.pairwise_cons.1 ih').1 z e)
  refine ⟨⟨asc, fun x hx y hy h2 hw => ?_⟩, by omega, fun x hx => ?_⟩
  · obtain ⟨i, hi⟩ := List.getElem?_of_mem hx
    obtain ⟨j, hj⟩ := List.getElem?_of_mem hy
    by_cases e : i = j
    · subst e; rw [hi] at hj; cases hj; rfl
    · exfalso
      obtain ⟨a1, a2⟩ := List.getElem?_eq_some_iff.1 hi
      obtain ⟨b1, b2⟩ := List.getElem?_eq_some_iff.1 hj
      by_cases hij : i < j
      · have h1 := (each j y hj).2.2
        rw [under_hit (j := i) (x := x) (by rw [List.getElem?_take_of_lt hij]; exact hi) h2 hw] at h1
        cases h1
      · have h1 := List.pairwise_iff_getElem.1 asc j i b1 a1 (by omega)
        rw [a2, b2] at h1
        rcases within_lt hw with e' | e'
        · rw [e', lexLt_irrefl] at h1; cases h1
        · have := lexLt_trans h1 e'
          rw [lexLt_irrefl] at this; cases this
  · obtain ⟨i, hi⟩ := List.getElem?_of_mem hx
    exact (each i x hi).1
end Go.Proofs.YtkbhjejalkbogaaGreat

/- Marks: what is under, what is marked, by either hand; the sort of marks of which only the last stands wrong. -/
set_option linter.unusedVariables false
set_option linter.unusedSimpArgs false
namespace Go.Proofs.YtkbhjejalkbogaaGreat
open Go Go.Av

def markedS (l : List Mk) (p : List ByteArray) : Bool := l.any fun x => decide (x.1 = p) || (x.2 && within p x.1)
theorem markedS_eq : ∀ {l : List Mk} {p : List ByteArray}, markedS l p = markedB l p
  | [], _ => rfl
  | x :: r, p => by
    have := markedS_eq (l := r) (p := p)
    simp only [markedS, markedB, underB] at this
    simp only [markedS, markedB, underB, List.any_cons, this]
    cases decide (x.1 = p) <;> cases (x.2 && within p x.1) <;> simp
theorem markedS_take {ms : List Mk} {p : List ByteArray} {j : Nat} {x : Mk} (h : ms[j]? = some x) : markedS (ms.take (j + 1)) p = (markedS (ms.take j) p || (decide (x.1 = p) || (x.2 && within p x.1))) := by
  rw [List.take_add_one, h]
  simp [markedS, List.any_append]
theorem markedS_hit {ms : List Mk} {p : List ByteArray} {j : Nat} {x : Mk} (h : ms[j]? = some x) (h1 : (decide (x.1 = p) || (x.2 && within p x.1)) = true) : markedS ms p = true := by
  simp only [markedS, List.any_eq_true]
  exact ⟨x, List.mem_of_getElem? h, h1⟩
theorem rok_mk : ROk 2 RMk := ⟨fun rd rd' es x hl h => mono_mk hl h, fun rd es x h => by obtain ⟨v, rfl, _⟩ := h; rfl, fun rd es x h c hc => by
  obtain ⟨v, rfl, hv⟩ := h
  simp at hc
  rcases hc with rfl | rfl
  · exact hv.one
  · rfl⟩

section
variable {w0 : World} {σ : Vw}

theorem spec_l11Same {v v' : Value} {xs ys : List ByteArray} (h : RSl 1 RS (Av.get w0 σ) v xs) (h' : RSl 1 RS (Av.get w0 σ) v' ys) {R : Value → Vw → Prop} (hR : R (.bool (decide (xs = ys))) σ) : AC Tryz.prog w0 n_spec_l11Same [v, v'] σ R := by
  refine ac_spec_l11Same ?_
  unfold vc_spec_l11Same
  rw [h.len, h'.len, pBin_eq, pIf_d]
  refine ⟨fun e => spec_Within h h' ?_, fun e => ?_⟩
  · have : within xs ys = decide (xs = ys) := by
      rw [Bool.eq_iff_iff, within_iff, decide_eq_true_iff]
      constructor
      · intro hp; exact (hp.eq_of_length (by omega)).symm
      · intro he; rw [he]; exact List.prefix_refl _
    rw [this]; exact hR
  · rw [decide_eq_false fun e' => e (by rw [e'])] at hR; exact hR

theorem spec_l11Under {v v' : Value} {ms : List Mk} {p : List ByteArray} (h : RSl 2 RMk (Av.get w0 σ) v ms) (h' : RSl 1 RS (Av.get w0 σ) v' p) {R : Value → Vw → Prop} (hR : R (.bool (underB ms p)) σ) : AC Tryz.prog w0 n_spec_l11Under [v, v'] σ R := by
  refine ac_spec_l11Under ?_
  unfold vc_spec_l11Under
  have hl := h.le
  refine loop_rule (m := ms.length) (fun m l t => ∃ j, t = σ ∧ m + j = ms.length ∧ underB (ms.take j) p = false ∧ l = [v, v', .bool false, .int .i64 (j : Nat)]) ?_ ⟨0, rfl, by omega, rfl, rfl⟩
  rintro m l t L ⟨j, rfl, hm, ht, rfl⟩ hL
  simp only [vget, List.getD_cons_zero, List.getD_cons_succ]
  rw [h.len, pBin_lt, pIf_d]
  refine ⟨fun hj => ?_, fun hj => ?_⟩
  · have hx := List.getElem?_eq_getElem (show j < ms.length by omega)
    generalize ms[j] = x at hx
    have hstep := underB_take (p := p) hx
    have next : underB (ms.take (j + 1)) p = false → L [v, v', .bool false, .int .i64 ((j : Int) + 1)] t := fun hf => hL _ _ (m - 1) (by omega) ⟨j + 1, rfl, by omega, hf, rfl⟩
    refine RSl.fld h hx (by omega) fun g1 es hes he => ?_
    obtain ⟨u1, rfl, hu1⟩ := hes
    simp at he
    rw [← he, pIf_b]
    refine ⟨fun h2 => ?_, fun h2 => ?_⟩
    · refine RSl.fld h hx (by omega) fun g2 es hes he => ?_
      obtain ⟨u2, rfl, hu2⟩ := hes
      simp at he
      rw [← he]
      refine spec_Within h' hu2 (pIf_b.2 ⟨fun hw => ?_, fun hw => ?_⟩)
      · rw [under_hit hx h2 hw] at hR; exact hR
      · rw [pBin_add (by omega)]
        exact next (by rw [hstep, ht, hw]; simp)
    · rw [pBin_add (by omega)]
      exact next (by rw [hstep, ht, h2]; simp)
  · have hj' : j = ms.length := by omega
    subst hj'
    rw [List.take_length] at ht
    rw [ht] at hR; exact hR

theorem spec_l11Marked {v v' : Value} {ms : List Mk} {p : List ByteArray} (h : RSl 2 RMk (Av.get w0 σ) v ms) (h' : RSl 1 RS (Av.get w0 σ) v' p) {R : Value → Vw → Prop} (hR : R (.bool (markedB ms p)) σ) : AC Tryz.prog w0 n_spec_l11Marked [v, v'] σ R := by
  rw [← markedS_eq] at hR
  refine ac_spec_l11Marked ?_
  unfold vc_spec_l11Marked
  have hl := h.le
  refine loop_rule (m := ms.length) (fun m l t => ∃ j, t = σ ∧ m + j = ms.length ∧ markedS (ms.take j) p = false ∧ l = [v, v', .bool false, .int .i64 (j : Nat)]) ?_ ⟨0, rfl, by omega, rfl, rfl⟩
  rintro m l t L ⟨j, rfl, hm, ht, rfl⟩ hL
  simp only [vget, List.getD_cons_zero, List.getD_cons_succ]
  rw [h.len, pBin_lt, pIf_d]
  refine ⟨fun hj => ?_, fun hj => ?_⟩
  · have hx := List.getElem?_eq_getElem (show j < ms.length by omega)
    generalize ms[j] = x at hx
    have hstep := markedS_take (p := p) hx
    have next : markedS (ms.take (j + 1)) p = false → L [v, v', .bool false, .int .i64 ((j : Int) + 1)] t := fun hf => hL _ _ (m - 1) (by omega) ⟨j + 1, rfl, by omega, hf, rfl⟩
    have hit : (decide (x.1 = p) || (x.2 && within p x.1)) = true → R (.bool true) t := fun hh => by rw [markedS_hit hx hh] at hR; exact hR
    refine RSl.fld h hx (by omega) fun g1 es hes he => ?_
    obtain ⟨u1, rfl, hu1⟩ := hes
    simp at he
    rw [← he]
    refine spec_l11Same hu1 h' (pIf_b.2 ⟨fun hw => hit (by rw [hw]; rfl), fun hw => ?_⟩)
    refine RSl.fld h hx (by omega) fun g2 es hes he => ?_
    obtain ⟨u2, rfl, hu2⟩ := hes
    simp at he
    rw [← he, pIf_b]
    refine ⟨fun h2 => ?_, fun h2 => ?_⟩
    · refine RSl.fld h hx (by omega) fun g3 es hes he => ?_
      obtain ⟨u3, rfl, hu3⟩ := hes
      simp at he
      rw [← he]
      refine spec_Within h' hu3 (pIf_b.2 ⟨fun hw2 => hit (by rw [h2, hw2]; simp), fun hw2 => ?_⟩)
      rw [pBin_add (by omega)]
      exact next (by rw [hstep, ht, hw, hw2]; simp)
    · rw [pBin_add (by omega)]
      exact next (by rw [hstep, ht, hw, h2]; simp)
  · have hj' : j = ms.length := by omega
    subst hj'
    rw [List.take_length] at ht
    rw [ht] at hR; exact hR

theorem slices_Eq {v v' : Value} {xs ys : List ByteArray} (h : RSl 1 RS (Av.get w0 σ) v xs) (h' : RSl 1 RS (Av.get w0 σ) v' ys) {R : Value → Vw → Prop} (hR : R (.bool (decide (xs = ys))) σ) : AC Tryz.prog w0 n_slices_Equal_string_string [v, v'] σ R := by
  refine ac_slices_Equal_string_string ?_
  unfold vc_slices_Equal_string_string
  have hl := h.le
  rw [h.len, h'.len, pBin_ne, pIf_d]
  refine ⟨fun e => ?_, fun e => ?_⟩
  · rw [decide_eq_false fun e' => e (by rw [e'])] at hR; exact hR
  have hlen : xs.length = ys.length := by have := Decidable.not_not.1 e; omega
  rw [h.len]
  refine loop_rule (m := xs.length) (fun m l t => ∃ j, t = σ ∧ m + j = xs.length ∧ xs.take j = ys.take j ∧ l = [v, v', .bool false, .int .i64 (xs.length : Nat), .int .i64 (j : Nat)]) ?_ ⟨0, rfl, by omega, by simp, rfl⟩
  rintro m l t L ⟨j, rfl, hm, ht, rfl⟩ hL
  simp only [vget, List.getD_cons_zero, List.getD_cons_succ]
  rw [pBin_lt, pIf_d]
  refine ⟨fun hj => ?_, fun hj => ?_⟩
  · have hx := List.getElem?_eq_getElem (show j < xs.length by omega)
    have hy := List.getElem?_eq_getElem (show j < ys.length by omega)
    refine RSl.at1 h hx fun g hg _ => ?_
    refine RSl.at1 h' hy fun g' hg' _ => ?_
    rw [hg, hg', pBin_sne, pIf_d]
    refine ⟨fun hne => ?_, fun heq => ?_⟩
    · rw [decide_eq_false fun e' => hne (by subst e'; rfl)] at hR; exact hR
    · rw [pBin_add (by omega)]
      exact hL _ _ (m - 1) (by omega) ⟨j + 1, rfl, by omega, by rw [List.take_add_one, List.take_add_one, hx, hy, ht, Decidable.not_not.1 heq], rfl⟩
  · have hj' : j = xs.length := by omega
    subst hj'
    rw [List.take_length, List.take_of_length_le (by omega)] at ht
    rw [decide_eq_true ht] at hR; exact hR

theorem marked_c1 {es : List Value} {x : Mk} {b : Nat} {r : Row} {u : Value} {p : List ByteArray} (h : RMk (Av.get w0 σ) es x) (hb : w0.heap.size ≤ b) (hr : σ b = some r) (hc : r.cells = [u]) (hu : RSl 1 RS (Av.get w0 σ) u p) {R : Value → Vw → Prop} (hR : R (.bool (decide (x.1 = p))) σ) :
    AC Tryz.prog w0 n_impl_marked_c1 [.agg ⟨es⟩, .pointer (some (Addr.mk b 0 none))] σ R := by
  obtain ⟨v, rfl, hv⟩ := h
  refine ac_impl_marked_c1 ?_
  unfold vc_impl_marked_c1
  rw [pVal_2 hv.one rfl]
  simp only [cellOf_agg, List.getD_cons_zero, List.getD_cons_succ]
  refine ⟨⟨b, 0, none⟩, fun _ => u, rfl, fun i hi => ?_, slices_Eq hv hu hR⟩
  have e : i = 0 := by omega
  subst e
  rw [addr_add, get_row hb hr, hc]; rfl

theorem impl_marked {v u : Value} {ms : List Mk} {p : List ByteArray} (h : RSl 2 RMk (Av.get w0 σ) v ms) (hu : RSl 1 RS (Av.get w0 σ) u p) {R : Value → Vw → Prop} (hR : ∀ σ', Keeps σ σ' → R (.bool (markedB ms p)) σ') : AC Tryz.prog w0 n_impl_marked [v, u] σ R := by
  refine ac_impl_marked ?_
  unfold vc_impl_marked
  rw [pVal1 hu.one]
  intro b h1 h2
  have kb : Keeps σ (σ.put b ⟨t_s_string, [u], 1, (0, 0)⟩) := Keeps.put h2
  have hl := h.le
  have h := h.mono kb.le fun es x => mono_mk kb.le
  have hu := hu.mono kb.le fun _ _ h => h
  have hR := hR _ kb
  refine ⟨⟨b, 0, none⟩, fun _ => u, rfl, fun i hi => ?_, ?_⟩
  · have e : i = 0 := by omega
    subst e
    rw [addr_add, get_row h1 put_at]; rfl
  refine impl_under h hu (pIf_b.2 ⟨fun e => ?_, fun e => ?_⟩)
  · have : markedB ms p = true := by simp [markedB, e]
    rw [this] at hR; exact hR
  have em : markedB ms p = ms.any fun x => decide (x.1 = p) := by simp [markedB, e]
  rw [em] at hR
  clear e em
  refine ac_slices_ContainsFunc_impl_Mark_impl_Mark ?_
  unfold vc_slices_ContainsFunc_impl_Mark_impl_Mark
  refine ac_slices_IndexFunc_impl_Mark_impl_Mark ?_
  unfold vc_slices_IndexFunc_impl_Mark_impl_Mark
  rw [h.len]
  refine loop_rule (m := ms.length) (fun m l t => ∃ j : Nat, t = σ.put b ⟨t_s_string, [u], 1, (0, 0)⟩ ∧ m + j = ms.length ∧ (ms.take j).any (fun x => decide (x.1 = p)) = false ∧ l = [v, .func (.func n_impl_marked_c1) ⟨[]⟩ ⟨[.pointer (some (Addr.mk b 0 none))]⟩, .int .i64 0, .int .i64 (ms.length : Nat), .int .i64 (j : Nat)]) ?_ ⟨0, rfl, by omega, rfl, rfl⟩
  rintro m l t L ⟨j, rfl, hm, ht, rfl⟩ hL
  simp only [vget, List.getD_cons_zero, List.getD_cons_succ]
  rw [pBin_lt, pIf_d]
  refine ⟨fun hj => ?_, fun hj => ?_⟩
  · have hx := List.getElem?_eq_getElem (show j < ms.length by omega)
    generalize ms[j] = x at hx
    refine h.at hx fun g hg => ?_
    simp only [expl] at hg
    refine ⟨n_impl_marked_c1, [], _, rfl, ?_⟩
    simp only [List.nil_append, List.cons_append]
    refine marked_c1 hg h1 put_at rfl hu (pIf_b.2 ⟨fun e => ?_, fun e => ?_⟩)
    · show pBin Tryz.prog 3 .geq (.int .i64 (j : Nat)) (.int .i64 0) _
      rw [pBin_ge, decide_eq_true (by omega)]
      have : (ms.any fun x => decide (x.1 = p)) = true := List.any_eq_true.2 ⟨x, List.mem_of_getElem? hx, e⟩
      rw [this] at hR; exact hR
    · rw [pBin_add (by omega)]
      refine hL _ _ (m - 1) (by omega) ⟨j + 1, rfl, by omega, ?_, rfl⟩
      rw [List.take_add_one, hx]
      simp only [Option.toList_some, List.any_append, ht, List.any_cons, List.any_nil, e]; rfl
  · have hj' : j = ms.length := by omega
    subst hj'
    show pBin Tryz.prog 3 .geq (.int .i64 (-1)) (.int .i64 0) _
    rw [pBin_ge, decide_eq_false (by omega)]
    rw [List.take_length] at ht
    rw [ht] at hR; exact hR

/-! ### The sort -/
end
end Go.Proofs.YtkbhjejalkbogaaGreat

/- How many paths there are in either of two parts; whether all that differs is marked; what a trail leads to: the pure part. -/
set_option linter.unusedVariables false
set_option linter.unusedSimpArgs false
set_option maxRecDepth 20000
namespace Go.Proofs.YtkbhjejalkbogaaGreat
open Go Go.Av

theorem ins_ascS {l : List ByteArray} {k : Nat} {x : ByteArray} (h : AscS l) (h1 : ∀ z, z ∈ l.take k → strLt z x = true) (h2 : ∀ z, l[k]? = some z → strLt x z = true) : AscS (l.take k ++ x :: l.drop k) := by
  have hd : ∀ z, z ∈ l.drop k → strLt x z = true := fun z hz => by
    by_cases hk : k < l.length
    · rw [List.drop_eq_getElem_cons hk] at hz
      have hx := h2 _ (List.getElem?_eq_getElem hk)
      rcases List.mem_cons.1 hz with e | hz
      · rw [e]; exact hx
      · have hp : AscS (l.drop k) := List.Pairwise.sublist (List.drop_sublist k l) h
        rw [List.drop_eq_getElem_cons hk] at hp
        exact strLt_trans hx ((List.pairwise_cons.1 hp).1 z hz)
    · rw [List.drop_of_length_le (by omega)] at hz; cases hz
  refine List.pairwise_append.2 ⟨List.Pairwise.sublist (List.take_sublist k l) h, List.pairwise_cons.2 ⟨hd, List.Pairwise.sublist (List.drop_sublist k l) h⟩, fun a ha b hb => ?_⟩
  rcases List.mem_cons.1 hb with e | hb
  · rw [e]; exact h1 a ha
  · exact strLt_trans (h1 a ha) (hd b hb)

theorem mrgK_mem : ∀ (xa xb : List (ByteArray × Tr)) (z : Pr), z ∈ mrgK xa xb → ((∃ k, z.2.1 = some k ∧ (z.1, k) ∈ xa) ∧ (z.2.2 = none ∨ ∃ k n, z.2.2 = some k ∧ (n, k) ∈ xb)) ∨ (z.2.1 = none ∧ ∃ k, z.2.2 = some k ∧ (z.1, k) ∈ xb)
  | [], xb, z, h => by
    rw [mrgK] at h
    obtain ⟨y, hy, rfl⟩ := List.mem_map.1 h
    exact .inr ⟨rfl, y.2, rfl, hy⟩
  | a :: xa, [], z, h => by
    rw [mrgK] at h
    obtain ⟨y, hy, rfl⟩ := List.mem_map.1 h
    exact .inl ⟨⟨y.2, rfl, hy⟩, .inl rfl⟩
  | a :: xa, b :: xb, z, h => by
    rw [mrgK] at h
    split at h
    · rcases List.mem_cons.1 h with rfl | h
      · exact .inl ⟨⟨a.2, rfl, List.mem_cons_self⟩, .inl rfl⟩
      · rcases mrgK_mem xa (b :: xb) z h with ⟨⟨k, h1, h2⟩, h3⟩ | h3
        · exact .inl ⟨⟨k, h1, List.mem_cons_of_mem _ h2⟩, h3⟩
        · exact .inr h3
    · split at h
      · rcases List.mem_cons.1 h with rfl | h
        · exact .inr ⟨rfl, b.2, rfl, List.mem_cons_self⟩
        · rcases mrgK_mem (a :: xa) xb z h with ⟨h1, h3 | ⟨k, n, h2, h3⟩⟩ | ⟨h1, k, h2, h3⟩
          · exact .inl ⟨h1, .inl h3⟩
          · exact .inl ⟨h1, .inr ⟨k, n, h2, List.mem_cons_of_mem _ h3⟩⟩
          · exact .inr ⟨h1, k, h2, List.mem_cons_of_mem _ h3⟩
      · rcases List.mem_cons.1 h with rfl | h
        · exact .inl ⟨⟨a.2, rfl, List.mem_cons_self⟩, .inr ⟨b.2, b.1, rfl, List.mem_cons_self⟩⟩
        · rcases mrgK_mem xa xb z h with ⟨⟨k, h1, h2⟩, h3 | ⟨k', n, h3, h4⟩⟩ | ⟨h1, k, h2, h3⟩
          · exact .inl ⟨⟨k, h1, List.mem_cons_of_mem _ h2⟩, .inl h3⟩
          · exact .inl ⟨⟨k, h1, List.mem_cons_of_mem _ h2⟩, .inr ⟨k', n, h3, List.mem_cons_of_mem _ h4⟩⟩
          · exact .inr ⟨h1, k, h2, List.mem_cons_of_mem _ h3⟩
termination_by xa xb => xa.length + xb.length

/-- How many paths there are in either of two parts, of which either may not be there. -/
noncomputable def unT : Nat → Option Tr → Option Tr → Nat
  | 0, _, _ => 0
  | _ + 1, none, none => 0
  | n + 1, none, some b => cntT (n + 1) b + 1
  | n + 1, some a, none => cntT (n + 1) a + 1
  | n + 1, some a, some b => 1 + sumBy (fun z : Pr => unT n z.2.1 z.2.2) (mrgK (partsOf a) (partsOf b))
/-- The same of parts that are there. -/
noncomputable def unS : Nat → Tr → Tr → Nat
  | 0, _, _ => 0
  | n + 1, a, b => 1 + sumBy (fun z : Pr => unS n (z.2.1.getD zeroT) (z.2.2.getD zeroT)) (mrgK (partsOf a) (partsOf b))

theorem unT_le : ∀ (n : Nat) (a b : Option Tr), unT n a b ≤ cntO n a + cntO n b
  | 0, _, _ => by simp [unT]
  | _ + 1, none, none => by simp [unT]
  | n + 1, none, some b => by simp [unT, cntO]
  | n + 1, some a, none => by simp [unT, cntO]
  | n + 1, some a, some b => by
    have h3 : sumBy (fun z : Pr => unT n z.2.1 z.2.2) (mrgK (partsOf a) (partsOf b)) ≤ sumBy (fun z : Pr => cntO n z.2.1 + cntO n z.2.2) (mrgK (partsOf a) (partsOf b)) := sumBy_mono fun z _ => unT_le n _ _
    rw [mrgK_sum (A := cntO n) (B := cntO n) rfl rfl] at h3
    obtain ⟨d, m, t, ns, ks⟩ := a
    obtain ⟨d', m', t', ns', ks'⟩ := b
    have h4 := zip_sum (f := cntT n) (ns := ns) (ks := ks)
    have h5 := zip_sum (f := cntT n) (ns := ns') (ks := ks')
    have e1 : cntT (n + 1) (.mk d m t ns ks) = ks.length + sumBy (cntT n) ks := rfl
    have e2 : cntT (n + 1) (.mk d' m' t' ns' ks') = ks'.length + sumBy (cntT n) ks' := rfl
    simp only [unT, cntO, partsOf, namesOf, kidsOf] at h3 ⊢
    omega

/-- What is asked of a part. -/
def fineT (n : Nat) (x : Tr) : Prop := shortT n x ∧ cntT n x ≤ 100000 ∧ ascT n x
theorem fine_zero (n : Nat) : fineT (n + 1) zeroT := ⟨⟨by omega, by show 0 ≤ _; omega, rfl, fun x h => (by cases h), fun x h => (by cases h)⟩, by show 0 ≤ _; omega, List.Pairwise.nil, fun x h => (by cases h)⟩
theorem fine_getD {n : Nat} {o : Option Tr} (h : fineO (n + 1) o) : fineT (n + 1) (o.getD zeroT) := by
  cases o with
  | none => exact fine_zero n
  | some x => exact h x rfl
theorem parts_kid {x : Tr} {nm : ByteArray} {k : Tr} (h : (nm, k) ∈ partsOf x) : k ∈ kidsOf x ∧ nm ∈ namesOf x := by
  unfold partsOf at h
  exact ⟨(List.of_mem_zip h).2, (List.of_mem_zip h).1⟩
theorem fine_kid {n : Nat} {x k : Tr} (h : fineT (n + 1) x) (hk : k ∈ kidsOf x) : fineT n k := by
  obtain ⟨h1, h2, h3⟩ := h
  obtain ⟨d, m, t, ns, ks⟩ := x
  have hk : k ∈ ks := hk
  have e1 : cntT (n + 1) (.mk d m t ns ks) = ks.length + sumBy (cntT n) ks := rfl
  have := sumBy_mem (f := cntT n) hk
  exact ⟨h1.2.2.2.2 k hk, by omega, h3.2 k hk⟩
theorem mrgK_nil' (l : List (ByteArray × Tr)) : mrgK [] l = l.map fun y => (y.1, none, some y.2) := by rw [mrgK]
theorem zip_sum' {f : Tr → Nat} : ∀ {ns : List ByteArray} {ks : List Tr}, ns.length = ks.length → sumBy (fun y : ByteArray × Tr => f y.2 + 1) (ns.zip ks) = ks.length + sumBy f ks
  | [], [], _ => rfl
  | [], _ :: _, h => by simp at h
  | _ :: _, [], h => by simp at h
  | n :: ns, k :: ks, h => by
    simp only [List.zip_cons_cons, sumBy, zip_sum' (f := f) (show ns.length = ks.length by simpa using h), List.length_cons]; omega
theorem sumBy_map' {α β : Type} {f : β → Nat} {g : α → β} : ∀ {l : List α}, sumBy f (l.map g) = sumBy (fun x => f (g x)) l
  | [] => rfl
  | a :: r => by simp only [List.map_cons, sumBy, sumBy_map' (l := r)]
theorem parts_zero : partsOf zeroT = [] := rfl
theorem unS_eq : ∀ (n : Nat) (a b : Option Tr), ¬ (a = none ∧ b = none) → fineO n a → fineO n b → unS n (a.getD zeroT) (b.getD zeroT) = unT n a b
  | 0, none, none, h, _, _ => absurd ⟨rfl, rfl⟩ h
  | 0, some x, _, _, h, _ => ((h x rfl).1).elim
  | 0, none, some x, _, _, h => ((h x rfl).1).elim
  | n + 1, none, none, h, _, _ => absurd ⟨rfl, rfl⟩ h
  | n + 1, none, some b, _, _, hb => by
    have hb' := hb b rfl
    have h1 : ∀ k, k ∈ kidsOf b → unS n zeroT k = cntT n k + 1 := fun k hk => by
      have hf := fine_kid hb' hk
      have := unS_eq n none (some k) (by simp) (fun x h => by cases h) (fun x h => by cases h; exact hf)
      simp only [Option.getD_none, Option.getD_some] at this
      rw [this]
      cases n with
      | zero => exact hf.1.elim
      | succ n => rfl
    show 1 + sumBy _ (mrgK (partsOf zeroT) (partsOf b)) = cntT (n + 1) b + 1
    have hcg : sumBy (fun y : ByteArray × Tr => unS n zeroT y.2) (partsOf b) = sumBy (fun y => cntT n y.2 + 1) (partsOf b) := sumBy_congr fun y hy => h1 y.2 (parts_kid (x := b) hy).1
    rw [parts_zero, mrgK_nil', sumBy_map']
    show 1 + sumBy (fun y : ByteArray × Tr => unS n zeroT y.2) (partsOf b) = _
    rw [hcg]
    obtain ⟨d, m, t, ns, ks⟩ := b
    have := zip_sum' (f := cntT n) (ns := ns) (ks := ks) hb'.1.2.2.1
    show 1 + sumBy _ (ns.zip ks) = (ks.length + sumBy (cntT n) ks) + 1
    omega
  | n + 1, some a, none, _, ha, _ => by
    have ha' := ha a rfl
    have h1 : ∀ k, k ∈ kidsOf a → unS n k zeroT = cntT n k + 1 := fun k hk => by
      have hf := fine_kid ha' hk
      have := unS_eq n (some k) none (by simp) (fun x h => by cases h; exact hf) (fun x h => by cases h)
      simp only [Option.getD_none, Option.getD_some] at this
      rw [this]
      cases n with
      | zero => exact hf.1.elim
      | succ n => rfl
    show 1 + sumBy _ (mrgK (partsOf a) (partsOf zeroT)) = cntT (n + 1) a + 1
    have hcg : sumBy (fun y : ByteArray × Tr => unS n y.2 zeroT) (partsOf a) = sumBy (fun y => cntT n y.2 + 1) (partsOf a) := sumBy_congr fun y hy => h1 y.2 (parts_kid (x := a) hy).1
    rw [parts_zero, mrgK_nil, sumBy_map']
    show 1 + sumBy (fun y : ByteArray × Tr => unS n y.2 zeroT) (partsOf a) = _
    rw [hcg]
    obtain ⟨d, m, t, ns, ks⟩ := a
    have := zip_sum' (f := cntT n) (ns := ns) (ks := ks) ha'.1.2.2.1
    show 1 + sumBy _ (ns.zip ks) = (ks.length + sumBy (cntT n) ks) + 1
    omega
  | n + 1, some a, some b, _, ha, hb => by
    show 1 + sumBy _ (mrgK (partsOf a) (partsOf b)) = 1 + sumBy _ (mrgK (partsOf a) (partsOf b))
    rw [sumBy_congr (g := fun z : Pr => unT n z.2.1 z.2.2) fun z hz => ?_]
    have ha' := ha a rfl
    have hb' := hb b rfl
    rcases mrgK_mem _ _ z hz with ⟨⟨k, h1, h2⟩, h3⟩ | ⟨h1, k, h2, h3⟩
    · refine unS_eq n z.2.1 z.2.2 (by rw [h1]; simp) (fun x hx => by rw [h1] at hx; cases hx; exact fine_kid ha' (parts_kid h2).1) fun x hx => ?_
      rcases h3 with h3 | ⟨k', nm, h3, h4⟩
      · rw [h3] at hx; cases hx
      · rw [h3] at hx; cases hx; exact fine_kid hb' (parts_kid h4).1
    · exact unS_eq n z.2.1 z.2.2 (by rw [h2]; simp) (fun x hx => by rw [h1] at hx; cases hx) fun x hx => by rw [h2] at hx; cases hx; exact fine_kid hb' (parts_kid h3).1

/-- What differs by itself. -/
def diffB : Option Tr → Option Tr → Bool
  | some a, some b => !(decide (isDir a = isDir b) && (decide (modeOf a = modeOf b) && decide (dataOf a = dataOf b)))
  | _, _ => true
def partsO (o : Option Tr) : List (ByteArray × Tr) := partsOf (o.getD zeroT)
noncomputable def covP : Nat → List Mk → List ByteArray → Option Tr → Option Tr → Bool
  | 0, _, _, _, _ => true
  | n + 1, ms, ps, a, b => (!diffB a b || markedB ms ps) && (mrgK (partsO a) (partsO b)).all fun z => covP n ms (ps ++ [z.1]) z.2.1 z.2.2
def leadsB (ms : List Mk) (ps : List ByteArray) : Bool := ms.any fun m => within m.1 ps
/-- What a trail leads to. -/
noncomputable def lookE : Nat → List Mk → List ByteArray → Option Tr → Option Tr → List En
  | 0, _, _, _, _ => []
  | _ + 1, _, _, none, none => []
  | n + 1, _, ps, none, some b => linT fNew (n + 1) ps b
  | _ + 1, _, ps, some _, none => [goneE ps]
  | n + 1, ms, ps, some a, some b =>
    if isDir a = isDir b then
      if underB ms ps = true then walkE (n + 1) ps (some a) (some b)
      else (if markedB ms ps = true then partE ps a b else []) ++ ((mrgK (partsOf a) (partsOf b)).map fun z => if leadsB ms (ps ++ [z.1]) = true then lookE n ms (ps ++ [z.1]) z.2.1 z.2.2 else []).flatten
    else goneE ps :: linT fNew (n + 1) ps b
/-- At how many paths one looks. -/
noncomputable def lookN : Nat → List Mk → List ByteArray → Option Tr → Option Tr → Nat
  | 0, _, _, _, _ => 0
  | _ + 1, _, _, none, none => 0
  | n + 1, _, _, none, some b => cntT (n + 1) b + 1
  | _ + 1, _, _, some _, none => 1
  | n + 1, ms, ps, some a, some b =>
    if isDir a = isDir b then
      if underB ms ps = true then unT (n + 1) (some a) (some b)
      else 1 + sumBy (fun z : Pr => if leadsB ms (ps ++ [z.1]) = true then lookN n ms (ps ++ [z.1]) z.2.1 z.2.2 else 0) (mrgK (partsOf a) (partsOf b))
    else cntT (n + 1) b + 1

theorem lookN_le : ∀ (n : Nat) (ms : List Mk) (ps : List ByteArray) (a b : Option Tr), lookN n ms ps a b ≤ cntO n a + cntO n b
  | 0, _, _, _, _ => by simp [lookN]
  | _ + 1, _, _, none, none => by simp [lookN]
  | n + 1, _, _, none, some b => by simp [lookN, cntO]
  | n + 1, _, _, some a, none => by simp [lookN, cntO]
  | n + 1, ms, ps, some a, some b => by
    simp only [lookN]
    split
    · split
      · exact unT_le _ _ _
      · have h3 : sumBy (fun z : Pr => if leadsB ms (ps ++ [z.1]) = true then lookN n ms (ps ++ [z.1]) z.2.1 z.2.2 else 0) (mrgK (partsOf a) (partsOf b)) ≤ sumBy (fun z : Pr => cntO n z.2.1 + cntO n z.2.2) (mrgK (partsOf a) (partsOf b)) := sumBy_mono fun z _ => by
          have := lookN_le n ms (ps ++ [z.1]) z.2.1 z.2.2
          split <;> omega
        rw [mrgK_sum (A := cntO n) (B := cntO n) rfl rfl] at h3
        obtain ⟨d, m, t, ns, ks⟩ := a
        obtain ⟨d', m', t', ns', ks'⟩ := b
        have h4 := zip_sum (f := cntT n) (ns := ns) (ks := ks)
        have h5 := zip_sum (f := cntT n) (ns := ns') (ks := ks')
        have e1 : cntT (n + 1) (.mk d m t ns ks) = ks.length + sumBy (cntT n) ks := rfl
        have e2 : cntT (n + 1) (.mk d' m' t' ns' ks') = ks'.length + sumBy (cntT n) ks' := rfl
        simp only [cntO, partsOf, namesOf, kidsOf] at h3 ⊢
        omega
    · simp only [cntO]; omega
theorem lookE_len : ∀ (n : Nat) (ms : List Mk) (ps : List ByteArray) (a b : Option Tr), (lookE n ms ps a b).length ≤ cntO n a + 2 * cntO n b
  | 0, _, _, _, _ => by simp [lookE]
  | _ + 1, _, _, none, none => by simp [lookE]
  | n + 1, _, ps, none, some b => by
    have := linT_len fNew (n + 1) ps b
    simp only [lookE, cntO]; omega
  | _ + 1, _, _, some _, none => by simp [lookE, cntO]
  | n + 1, ms, ps, some a, some b => by
    have h1 := linT_len fNew (n + 1) ps b
    simp only [lookE]
    split
    · split
      · exact walkE_len _ _ _ _
      · have h2 := partE_len ps a b
        have h2' : (if markedB ms ps = true then partE ps a b else []).length ≤ 2 := by
          split
          · exact h2
          · simp
        have h3 : ((mrgK (partsOf a) (partsOf b)).map fun z => if leadsB ms (ps ++ [z.1]) = true then lookE n ms (ps ++ [z.1]) z.2.1 z.2.2 else []).flatten.length ≤ sumBy (fun z : Pr => cntO n z.2.1 + 2 * cntO n z.2.2) (mrgK (partsOf a) (partsOf b)) := flat_sum fun z _ => by
          have := lookE_len n ms (ps ++ [z.1]) z.2.1 z.2.2
          split
          · exact this
          · simp
        rw [mrgK_sum (A := cntO n) (B := fun o => 2 * cntO n o) rfl rfl] at h3
        obtain ⟨d, m, t, ns, ks⟩ := a
        obtain ⟨d', m', t', ns', ks'⟩ := b
        have h4 := zip_sum (f := cntT n) (ns := ns) (ks := ks)
        have h5 := zip_sum (f := cntT n) (ns := ns') (ks := ks')
        have h6 : ∀ l : List (ByteArray × Tr), sumBy (fun y => 2 * cntO n (some y.2)) l = 2 * sumBy (fun y : ByteArray × Tr => cntT n y.2 + 1) l := fun l => by
          induction l with
          | nil => rfl
          | cons a r ih =>
            show 2 * (cntT n a.2 + 1) + _ = 2 * ((cntT n a.2 + 1) + _)
            rw [ih]; omega
        rw [h6] at h3
        have e1 : cntT (n + 1) (.mk d m t ns ks) = ks.length + sumBy (cntT n) ks := rfl
        have e2 : cntT (n + 1) (.mk d' m' t' ns' ks') = ks'.length + sumBy (cntT n) ks' := rfl
        simp only [cntO, partsOf, namesOf, kidsOf] at h3 ⊢
        rw [List.length_append]
        omega
    · simp only [cntO, List.length_cons]; omega
end Go.Proofs.YtkbhjejalkbogaaGreat

/- The names of either of two parts, put in one by one; how many paths there are in either: by either hand. -/
set_option linter.unusedVariables false
set_option linter.unusedSimpArgs false
set_option maxRecDepth 20000
namespace Go.Proofs.YtkbhjejalkbogaaGreat
open Go Go.Av

theorem fine_asc {n : Nat} {x : Tr} (h : fineT (n + 1) x) : AscS (namesOf x) := by
  obtain ⟨d, m, t, ns, ks⟩ := x
  exact h.2.2.1
theorem fine_len {n : Nat} {x : Tr} (h : fineT n x) : (namesOf x).length ≤ 100000 := names_len h.1 h.2.1
theorem mrg_kids {n m : Nat} {x y : Tr} (hx : fineT (n + 1) x) (hy : fineT (m + 1) y) : mrgK (partsOf x) (partsOf y) = (namesU (namesOf x ++ namesOf y)).map fun nm => ((nm, kidT x nm, kidT y nm) : Pr) := by
  rw [← mrgK_names (xa := partsOf x) (xb := partsOf y) (by rw [part_names hx.1]; exact fine_asc hx) (by rw [part_names hy.1]; exact fine_asc hy) (namesU_asc (namesOf x ++ namesOf y)) (fun z => by rw [namesU_mem, part_names hx.1, part_names hy.1, List.mem_append])]
  refine List.map_congr_left fun nm _ => ?_
  rw [kid_lk hx.1, kid_lk hy.1]
theorem mrgK_len : ∀ (xa xb : List (ByteArray × Tr)), (mrgK xa xb).length ≤ xa.length + xb.length
  | [], xb => by rw [mrgK]; simp
  | a :: xa, [] => by rw [mrgK]; simp
  | a :: xa, b :: xb => by
    rw [mrgK]
    split
    · have := mrgK_len xa (b :: xb); simp only [List.length_cons] at this ⊢; omega
    · split
      · have := mrgK_len (a :: xa) xb; simp only [List.length_cons] at this ⊢; omega
      · have := mrgK_len xa xb; simp only [List.length_cons] at this ⊢; omega
termination_by xa xb => xa.length + xb.length
theorem names_both {n m : Nat} {x y : Tr} (hx : fineT (n + 1) x) (hy : fineT (m + 1) y) : (namesU (namesOf x ++ namesOf y)).length ≤ 200000 := by
  have h1 := congrArg List.length (mrg_kids hx hy)
  have h2 := mrgK_len (partsOf x) (partsOf y)
  have h3 := fine_len hx
  have h4 := fine_len hy
  rw [List.length_map] at h1
  have e1 : (partsOf x).length ≤ (namesOf x).length := by unfold partsOf; rw [List.length_zip]; omega
  have e2 : (partsOf y).length ≤ (namesOf y).length := by unfold partsOf; rw [List.length_zip]; omega
  omega
/-- A part is read no deeper than it is. -/
theorem RT_short : ∀ (n m : Nat) (rd : Addr → Option Value) (es : List Value) (x : Tr), RT m rd es x → shortT n x → RT n rd es x
  | 0, _, _, _, _, _, h => h.elim
  | n + 1, 0, _, _, _, h, _ => h.elim
  | n + 1, m + 1, rd, es, .mk d mo t ns ks, h, hs => by
    obtain ⟨u, w, h1, h2, h3, h4, A, cap, e1, e2, e3⟩ := h
    refine ⟨u, w, h1, h2, h3, h4, A, cap, e1, e2, fun j y hj => ?_⟩
    obtain ⟨a, es', q1, q2, q3, q4⟩ := e3 j y hj
    exact ⟨a, es', q1, q2, q3, RT_short n m rd es' y q4 (hs.2.2.2.2 y (List.mem_of_getElem? hj))⟩

section
variable {w0 : World} {σ : Vw}

theorem spec_l12Names {n m : Nat} {es es' : List Value} {x y : Tr} (h : RT n (Av.get w0 σ) es x) (h' : RT m (Av.get w0 σ) es' y) (ha : AscS (namesOf x)) (hb : AscS (namesOf y)) (hl : (namesOf x).length ≤ 1000000 ∧ (namesOf y).length ≤ 1000000) {R : Value → Vw → Prop}
    (hR : ∀ v F σ', Keeps σ σ' → OStrs w0 σ' F v (namesU (namesOf x ++ namesOf y)) → (∀ i, i ∈ F → σ i = none) → R v σ') : AC Tryz.prog w0 n_spec_l12Names [.agg ⟨es⟩, .agg ⟨es'⟩] σ R := by
  obtain ⟨u, w, rfl, _, _, h4, _, hp⟩ := h.cells
  obtain ⟨u', w', rfl, _, _, h4', _, hp'⟩ := h'.cells
  refine ac_spec_l12Names ?_
  unfold vc_spec_l12Names cs_spec_l12Names_1
  rw [hp, hp']
  simp only [cellOf_agg, List.getD_cons_zero, List.getD_cons_succ]
  generalize namesOf x = ns at *
  generalize namesOf y = ns' at *
  refine copy_strs h4 (by omega) fun v1 F1 s1 k1 o1 f1 => ?_
  refine loop_rule (m := ns'.length) (fun c l st => ∃ (i : Nat) (v : Value) (F : List Nat) (L : List ByteArray), c + i = ns'.length ∧ Keeps σ st ∧ (∀ j, j ∈ F → σ j = none) ∧ OStrs w0 st F v L ∧ AscS L ∧ (∀ z, z ∈ L ↔ z ∈ ns ∨ z ∈ ns'.take i) ∧ L.length ≤ ns.length + i ∧
      l = [v, .int .i64 (i : Nat), .bool (isDir y), .int .i64 (modeOf y), .string (dataOf y), u', w']) ?_
    ⟨0, v1, F1, ns, by omega, k1, f1, o1, ha, fun z => by simp, by omega, rfl⟩
  rintro c l st L5 ⟨i, v, F, L, hc, ks, hF, ho, hasc, hmem, hll, rfl⟩ hL
  simp only [vget, List.getD_cons_zero, List.getD_cons_succ]
  have hu' := h4'.mono ks.le fun _ _ h => h
  have hov := ho.rel (ok_str w0)
  rw [hu'.len, pBin_lt, pIf_d]
  refine ⟨fun hi => ?_, fun hi => ?_⟩
  · have hyi := List.getElem?_eq_getElem (show i < ns'.length by omega)
    generalize ns'[i]'(by omega) = nm at hyi
    have htk : ns'.take (i + 1) = ns'.take i ++ [nm] := by rw [List.take_add_one, hyi]; rfl
    have INS : ∀ k : Nat, k ≤ L.length → (∀ z, z ∈ L.take k → strLt z nm = true) → (∀ z, L[k]? = some z → strLt nm z = true) →
        pSlice 1 v none (some (.int .i64 (k : Nat))) (fun v25 => pIndexAddr 1 u' (.int .i64 (i : Nat)) (fun v26 => pLoad w0 1 v26 st (fun g27 => pVal false 1 (g27 0) (pSlice 1 v (some (.int .i64 (k : Nat))) none (fun v28 => pNew w0 t_string [] st (fun n29 s30 => (Stay w0 st s30 v26 1) ∧ (pAppendS w0 t_string 1 16 (.slice (some (Addr.mk n29 0 none)) 0 0) v25 s30 (fun v31 s32 => (Stay w0 s30 s32 v26 1) ∧ ((allOne [g27 0]) ∧ (pAppend w0 t_string 1 16 v31 1 [g27 0] s32 (fun v33 s34 => pAppendS w0 t_string 1 16 v33 v28 s34 (fun v35 s36 => pBin Tryz.prog 3 .add (.int .i64 (i : Nat)) (.int .i64 1) (fun v37 => L5 [v35, v37, .bool (isDir y), .int .i64 (modeOf y), .string (dataOf y), u', w'] s36))))))))))))) := by
      intro k hk h1 h2
      refine RSl.take hov hk fun va hva => ?_
      refine RSl.atp hu' hyi fun p g hg => ?_
      obtain ⟨hg, hgs⟩ := hg
      simp only [expl, List.cons.injEq, and_true] at hg
      rw [hg, pVal1 rfl]
      refine RSl.slice hov (l := k) (u := L.length) rfl rfl hk (Nat.le_refl _) fun vb hvb => ?_
      rw [List.take_length] at hvb
      intro b hb1 hb2
      have kb : Keeps st (st.put b ⟨t_string, [], 0, (0, 0)⟩) := Keeps.put hb2
      have hb0 : ∀ i, i ∈ [b] → st i = none := fun i hi => by rw [List.mem_singleton.1 hi]; exact hb2
      refine ⟨kb.stay, ?_⟩
      refine (OAcc.new (w0 := w0) (σ := st) (ety := t_string) (n := 1) (O := OStr) hb1).allX (ok_str w0) hva kb.le (fun es y hy => ⟨rfl, hy⟩) (by simp; omega) (by omega) fun v1 F1 s1 x1 k1 o1 f1 => ?_
      rw [List.nil_append] at o1
      refine ⟨ext_stay x1, ?_⟩
      have K1 := k1.old kb hb0
      have hF1 := fresh_in kb hb0 f1
      refine o1.one (ok_str w0) (f := []) (y := nm) ⟨rfl, rfl, hgs⟩ (fun i hi => by cases hi) (by rw [List.length_take]; omega) (by omega) fun v2 F2 s2 k2 o2 f2 => ?_
      have K2 := k2.old K1 hF1
      have hF2 : ∀ i, i ∈ F2 → st i = none := fresh_in K1 hF1 fun i hi => by
        rcases f2 i hi with e | e | e
        · exact .inl e
        · cases e
        · exact .inr e
      refine o2.all (ok_str w0) hvb K2.le (fun es y hy => ⟨rfl, hy⟩) (by simp only [List.length_append, List.length_take, List.length_drop, List.length_cons, List.length_nil]; omega) (by omega) fun v3 F3 s3 k3 o3 f3 => ?_
      have K3 := k3.old K2 hF2
      have hF3 := fresh_in K2 hF2 f3
      rw [pBin_add (by omega)]
      have eL : L.take k ++ [nm] ++ L.drop k = L.take k ++ nm :: L.drop k := by simp
      rw [eL] at o3
      refine hL _ _ (c - 1) (by omega) ⟨i + 1, v3, F3, _, by omega, ks.trans K3, fun j hj => none_old ks (hF3 j hj), o3.osl, ins_ascS hasc h1 h2, fun z => ?_, ?_, by simp⟩
      · rw [htk]
        have := hmem z
        have hsp : z ∈ L ↔ z ∈ L.take k ∨ z ∈ L.drop k := by
          conv => lhs; rw [← List.take_append_drop k L]
          exact List.mem_append
        simp only [List.mem_append, List.mem_cons, List.mem_singleton, List.not_mem_nil, or_false]
        constructor
        · rintro (h | h | h)
          · rcases this.1 (hsp.2 (.inl h)) with e | e
            · exact .inl e
            · exact .inr (.inl e)
          · exact .inr (.inr h)
          · rcases this.1 (hsp.2 (.inr h)) with e | e
            · exact .inl e
            · exact .inr (.inl e)
        · rintro (h | h | h)
          · rcases hsp.1 (this.2 (.inl h)) with e | e
            · exact .inl e
            · exact .inr (.inr e)
          · rcases hsp.1 (this.2 (.inr h)) with e | e
            · exact .inl e
            · exact .inr (.inr e)
          · exact .inr (.inl h)
      · simp only [List.length_append, List.length_take, List.length_cons, List.length_drop]; omega
    refine loop_rule (m := L.length) (fun c2 l2 st2 => ∃ (k : Nat), c2 + k = L.length ∧ st2 = st ∧ (∀ z, z ∈ L.take k → strLt z nm = true) ∧ l2 = [v, .int .i64 (i : Nat), .int .i64 (k : Nat), .bool (isDir y), .int .i64 (modeOf y), .string (dataOf y), u', w']) ?_
      ⟨0, by omega, rfl, by simp, rfl⟩
    rintro c2 l2 st2 L9 ⟨k, hc2, rfl, hlt, rfl⟩ hL9
    simp only [vget, List.getD_cons_zero, List.getD_cons_succ]
    rw [hov.len, pBin_lt, pIf_d]
    refine ⟨fun hk => ?_, fun hk => ?_⟩
    · have hzk := List.getElem?_eq_getElem (show k < L.length by omega)
      generalize L[k]'(by omega) = zk at hzk
      refine RSl.at1 hov hzk fun g hg hgs => ?_
      refine RSl.at1 hu' hyi fun g' hg' hgs' => ?_
      rw [hg, hg', pBin_slt, pIf_b]
      refine ⟨fun hls => ?_, fun hnl => ?_⟩
      · rw [pBin_add (by omega)]
        refine hL9 _ _ (c2 - 1) (by omega) ⟨k + 1, by omega, rfl, fun z hz => ?_, by simp⟩
        rw [List.take_add_one, hzk] at hz
        rcases List.mem_append.1 hz with e | e
        · exact hlt z e
        · rw [Option.toList_some, List.mem_singleton] at e; rw [e]; exact hls
      · show pLen v _
        rw [hov.len, pBin_eq, pIf_d]
        refine ⟨fun he => by omega, fun _ => ?_⟩
        refine RSl.at1 hov hzk fun g hg hgs => ?_
        refine RSl.at1 hu' hyi fun g' hg' hgs' => ?_
        rw [hg, hg', pBin_sne, pIf_d]
        refine ⟨fun hne => ?_, fun heq => ?_⟩
        · refine INS k (by omega) hlt fun z hz => ?_
          rw [hzk] at hz; cases hz
          cases hs : strLt nm zk with
          | true => rfl
          | false => exact absurd (strLt_total hnl hs) hne
        · have heq := Decidable.not_not.1 heq
          subst heq
          rw [pBin_add (by omega)]
          refine hL _ _ (c - 1) (by omega) ⟨i + 1, v, F, L, by omega, ks, hF, ho, hasc, fun z => ?_, by omega, by simp⟩
          rw [htk, hmem z, List.mem_append, List.mem_singleton]
          refine ⟨fun h => ?_, fun h => ?_⟩
          · rcases h with e | e
            · exact .inl e
            · exact .inr (.inl e)
          · rcases h with e | e | e
            · exact .inl e
            · exact .inr e
            · rw [e]; exact (hmem zk).1 (List.mem_of_getElem? hzk)
    · show pLen v _
      have e : k = L.length := by omega
      rw [hov.len, pBin_eq, pIf_d]
      refine ⟨fun _ => ?_, fun he => absurd (by omega) he⟩
      exact INS k (by omega) hlt fun z hz => by rw [List.getElem?_eq_none (by omega)] at hz; cases hz
  · have e : i = ns'.length := by omega
    subst e
    rw [List.take_length] at hmem
    have : L = namesU (ns ++ ns') := asc_unique hasc (namesU_asc _) fun z => by rw [hmem z, namesU_mem, List.mem_append]
    subst this
    exact hR v F st ks ho hF

theorem spec_l12Kid {n : Nat} {es : List Value} {x : Tr} {nm : ByteArray} (h : RT (n + 1) (Av.get w0 σ) es x) (hx : fineT (n + 1) x) (hs : nm.size ≤ 9223372036854775807) {R : Value → Vw → Prop}
    (hR : ∀ es' s, Keeps σ s → RT (n + 1) (Av.get w0 s) es' ((kidT x nm).getD zeroT) → R (.tuple ⟨[.agg ⟨es'⟩, .bool (kidT x nm).isSome]⟩) s) : AC Tryz.prog w0 n_spec_l12Kid [.agg ⟨es⟩, .string nm] σ R := by
  have h0 := h
  obtain ⟨u, w, rfl, _, _, _, _, hp⟩ := h.cells
  refine ac_spec_l12Kid ?_
  unfold vc_spec_l12Kid
  rw [hp, pVal1 rfl]
  simp only [cellOf_agg, List.getD_cons_zero, List.getD_cons_succ]
  intro b hb1 hb2
  have kb : Keeps σ (σ.put b ⟨t_string, [.string nm], 1, (0, 0)⟩) := Keeps.put hb2
  have hv : RSl 1 RS (Av.get w0 (σ.put b ⟨t_string, [.string nm], 1, (0, 0)⟩)) (.slice (some ⟨b, 0, none⟩) 1 1) [nm] := by
    refine ⟨some ⟨b, 0, none⟩, 1, rfl, by simp, fun j z hj => ?_⟩
    have hj0 : j = 0 := by have := (List.getElem?_eq_some_iff.1 hj).1; simp at this; exact this
    subst hj0
    cases hj
    refine ⟨_, [.string nm], rfl, rfl, fun i hi => ?_, rfl, hs⟩
    have e : i = 0 := by omega
    subst e
    rw [addr_add, get_row hb1 put_at]
  have hat : atT x [nm] = kidT x nm := by
    unfold atT
    cases e : kidT x nm with
    | none => rfl
    | some k => simp [atT]
  refine spec_At [nm] (mono_rt _ _ _ _ _ kb.le h0) (short_wf _ _ hx.1) hv fun es' hes => ?_
  rw [hat] at hes ⊢
  rw [pExtract_s rfl, pExtract_s rfl]
  have hes0 := hes
  obtain ⟨u2, w2, rfl, _, _, _, _, hp2⟩ := hes.cells
  rw [hp2]
  simp only [cellOf_agg, List.getD_cons_zero, List.getD_cons_succ]
  exact hR _ _ kb hes0
theorem kid_fineT {n : Nat} {x : Tr} (h : fineT (n + 1) x) (nm : ByteArray) : fineO n (kidT x nm) := fun k hk => fine_kid h (kid_mem hk)
theorem kid_level {n : Nat} {x : Tr} (h : fineT (n + 1) x) {nm : ByteArray} (hm : nm ∈ namesOf x) : n ≠ 0 := fun e => by
  subst e
  have hne := kid_there h.1 hm
  cases hk : kidT x nm with
  | none => exact hne hk
  | some k => exact (fine_kid h (kid_mem hk)).1

theorem spec_Union : ∀ (n : Nat) {σ : Vw} {es es' : List Value} {x y : Tr} {R : Value → Vw → Prop}, RT n (Av.get w0 σ) es x → RT n (Av.get w0 σ) es' y → fineT n x → fineT n y → (∀ s, Keeps σ s → R (.int .i64 (unS n x y : Nat)) s) → AC Tryz.prog w0 n_spec_l12Union [.agg ⟨es⟩, .agg ⟨es'⟩] σ R := by
  intro n
  induction n with
  | zero => intro σ es es' x y R h; exact h.elim
  | succ n ih =>
    intro σ es es' x y R h h' hx hy hR
    have h0 := h
    have h0' := h'
    obtain ⟨u, w, rfl, _, _, _, _, hp⟩ := h.cells
    obtain ⟨u', w', rfl, _, _, _, _, hp'⟩ := h'.cells
    refine ac_spec_l12Union ?_
    unfold vc_spec_l12Union
    rw [hp, hp']
    simp only [cellOf_agg, List.getD_cons_zero, List.getD_cons_succ]
    have hl1 := fine_len hx
    have hl2 := fine_len hy
    have hun := unT_le (n + 1) (some x) (some y)
    have hune := unS_eq (n + 1) (some x) (some y) (by simp) (fun z hz => by cases hz; exact hx) (fun z hz => by cases hz; exact hy)
    simp only [Option.getD_some] at hune
    have hc1 := hx.2.1
    have hc2 := hy.2.1
    simp only [cntO] at hun
    have hsum : unS (n + 1) x y = 1 + sumBy (fun nm => unS n ((kidT x nm).getD zeroT) ((kidT y nm).getD zeroT)) (namesU (namesOf x ++ namesOf y)) := by
      show 1 + sumBy _ (mrgK (partsOf x) (partsOf y)) = _
      rw [mrg_kids hx hy, sumBy_map']
    have hLm : ∀ z, z ∈ namesU (namesOf x ++ namesOf y) → z ∈ namesOf x ∨ z ∈ namesOf y := fun z hz => by rw [namesU_mem, List.mem_append] at hz; exact hz
    have hLl := names_both hx hy
    refine spec_l12Names h0 h0' (fine_asc hx) (fine_asc hy) (by omega) fun nv F s1 k1 on fn => ?_
    generalize namesU (namesOf x ++ namesOf y) = L at *
    generalize hW : (fun nm => unS n ((kidT x nm).getD zeroT) ((kidT y nm).getD zeroT)) = W at hsum
    refine loop_rule (m := L.length) (fun c l st => ∃ j : Nat, c + j = L.length ∧ Keeps σ st ∧ OStrs w0 st F nv L ∧
        l = [.int .i64 ((1 + sumBy W (L.take j) : Nat) : Int), nv, .int .i64 (j : Nat), .bool (isDir x), .int .i64 (modeOf x), .string (dataOf x), u, w, .bool (isDir y), .int .i64 (modeOf y), .string (dataOf y), u', w']) ?_
      ⟨0, by omega, k1, on, by simp [sumBy]⟩
    rintro c l st L' ⟨j, hcj, ks, hon, rfl⟩ hL'
    simp only [vget, List.getD_cons_zero, List.getD_cons_succ]
    have onr := hon.rel (ok_str w0)
    rw [onr.len, pBin_lt, pIf_d]
    refine ⟨fun hj => ?_, fun hj => ?_⟩
    · have hnm := List.getElem?_eq_getElem (show j < L.length by omega)
      generalize L[j]'(by omega) = nm at hnm
      have hmem := hLm nm (List.mem_of_getElem? hnm)
      have hn0 : n ≠ 0 := by
        rcases hmem with hm | hm
        · exact kid_level hx hm
        · exact kid_level hy hm
      obtain ⟨n', rfl⟩ := Nat.exists_eq_succ_of_ne_zero hn0
      refine RSl.at1 onr hnm fun g hg hgs => ?_
      rw [hg]
      refine spec_l12Kid (mono_rt _ _ _ _ _ ks.le h0) hx hgs fun e1 s2 k2 r1 => ?_
      have r10 := r1
      obtain ⟨u2, w2, rfl, _, _, _, _, hp2⟩ := r1.cells
      rw [pExtract_s rfl, pExtract_s rfl, hp2]
      refine RSl.at1 (onr.mono k2.le fun _ _ h => h) hnm fun g' hg' _ => ?_
      rw [hg']
      refine spec_l12Kid (mono_rt _ _ _ _ _ (ks.trans k2).le h0') hy hgs fun e2 s3 k3 r2 => ?_
      have r20 := r2
      obtain ⟨u3, w3, rfl, _, _, _, _, hp3⟩ := r2.cells
      rw [pExtract_s rfl, pExtract_s rfl, hp3]
      simp only [cellOf_agg, List.getD_cons_zero, List.getD_cons_succ]
      have f1 := fine_getD (kid_fineT hx nm)
      have f2 := fine_getD (kid_fineT hy nm)
      refine ih (RT_short _ _ _ _ _ (mono_rt _ _ _ _ _ k3.le r10) f1.1) (RT_short _ _ _ _ _ r20 f2.1) f1 f2 fun s4 k4 => ?_
      have hW1 : unS (n' + 1) ((kidT x nm).getD zeroT) ((kidT y nm).getD zeroT) = W nm := by rw [← hW]
      rw [hW1]
      have hst := sumBy_take (f := W) hnm
      have hsl := sumBy_le (f := W) (xs := L) (j + 1)
      rw [pBin_add (by omega), pBin_add (by omega)]
      have K := (k2.trans k3).trans k4
      refine hL' _ _ (c - 1) (by omega) ⟨j + 1, by omega, ks.trans K, hon.frame (ok_str w0) (K.but_at fun i hi => (hon.dom (ok_str w0) i hi).2), ?_⟩
      rw [hst]
      congr 2
      omega
    · have e : j = L.length := by omega
      subst e
      rw [List.take_length]
      show R (.int .i64 ((1 + sumBy W L : Nat) : Int)) st
      rw [← hsum]
      exact hR st ks
end
end Go.Proofs.YtkbhjejalkbogaaGreat

/- Marks put in and made coarser by the reference's hand. -/
set_option linter.unusedVariables false
set_option linter.unusedSimpArgs false
namespace Go.Proofs.YtkbhjejalkbogaaGreat
open Go Go.Av

section
variable {w0 : World} {σ : Vw}

theorem push_mk {rd0 : Addr → Option Value} {F : List Nat} {v : Value} {xs : List Mk} {y : Mk} {a b : Value} (h : OAcc w0 t_impl_Mark 2 (OB RMk rd0) σ F v xs) (hy : RMk rd0 [a, b] y) (hl : xs.length ≤ 100000) {K : Value → Vw → Prop}
    (hK : ∀ v' F' σ', KeepsBut F σ σ' → OAcc w0 t_impl_Mark 2 (OB RMk rd0) σ' F' v' (xs ++ [y]) → (∀ i, i ∈ F' → i ∈ F ∨ σ i = none) → K v' σ') :
    pVal true 2 (.agg ⟨[a, b]⟩) (allOne [a, b] ∧ pAppend w0 t_impl_Mark 2 32 v 1 [a, b] σ K) := by
  have h1 := rok_mk.one _ _ _ hy
  rw [pVal_2 (h1 a (by simp)) (h1 b (by simp))]
  refine h.one (ok_base rok_mk w0 rd0) (f := []) ⟨rfl, hy⟩ (fun i hi => by cases hi) (by omega) (by omega) fun v' F' σ' k o f => hK v' F' σ' k o fun i hi => ?_
  rcases f i hi with e | e | e
  · exact .inl e
  · cases e
  · exact .inr e
theorem rebase {v : Value} {ms : List Mk} (h : RSl 2 RMk (Av.get w0 σ) v ms) : RSl 2 (RB RMk (Av.get w0 σ)) (Av.get w0 σ) v ms := h.imp fun es x hx => hx

/-- What is still to come of a list into which the mark is put. -/
def tlP (m : Mk) (done : Bool) (l : List Mk) : List Mk := if done = true then l.filter (keepM m) else insF m (l.filter (keepM m))
theorem tlP_skip {m x : Mk} {d : Bool} {l : List Mk} (h : keepM m x = false) : tlP m d (x :: l) = tlP m d l := by simp [tlP, List.filter_cons, h]
theorem tlP_here {m x : Mk} {l : List Mk} (h : keepM m x = true) (hl : lexLt m.1 x.1 = true) : tlP m false (x :: l) = m :: x :: tlP m true l := by simp [tlP, List.filter_cons, h, insF, hl]
theorem tlP_far {m x : Mk} {l : List Mk} (h : keepM m x = true) (hl : lexLt m.1 x.1 = false) : tlP m false (x :: l) = x :: tlP m false l := by simp [tlP, List.filter_cons, h, insF, hl]
theorem tlP_done {m x : Mk} {l : List Mk} (h : keepM m x = true) : tlP m true (x :: l) = x :: tlP m true l := by simp [tlP, List.filter_cons, h]

set_option maxHeartbeats 4000000 in
theorem spec_l11Put {v u : Value} {ms : List Mk} {p : List ByteArray} {b : Bool} (h : RSl 2 RMk (Av.get w0 σ) v ms) (hu : RSl 1 RS (Av.get w0 σ) u p) (hl : ms.length ≤ 10000) {R : Value → Vw → Prop}
    (hR : ∀ v' σ', Keeps σ σ' → RSl 2 RMk (Av.get w0 σ') v' (putM ms (p, b)) → R v' σ') : AC Tryz.prog w0 n_spec_l11Put [v, .agg ⟨[u, .bool b]⟩] σ R := by
  refine ac_spec_l11Put ?_
  unfold vc_spec_l11Put cs_spec_l11Put_1 cs_spec_l11Put_2
  rw [pVal_2 hu.one rfl]
  simp only [cellOf_agg, List.getD_cons_zero, List.getD_cons_succ]
  have same : (underB ms p || (!b && markedB ms p)) = true → R v σ := fun hc => hR _ _ (Keeps.refl _) (by rw [putM, if_pos hc]; exact h)
  refine spec_l11Under h hu (pIf_b.2 ⟨fun e => same (by rw [e]; rfl), fun hun => ?_⟩)
  have hput : ¬ (underB ms p || (!b && markedB ms p)) = true → ∀ v' σ', Keeps σ σ' → RSl 2 RMk (Av.get w0 σ') v' (tlP (p, b) false ms) → R v' σ' := fun hc v' σ' k hv => hR v' σ' k (by rw [putM, if_neg hc]; exact hv)
  have hTl : (tlP (p, b) false ms).length ≤ ms.length + 1 := by simp only [tlP]; rw [if_neg (by simp), ins_len]; have := List.length_filter_le (keepM (p, b)) ms; omega
  generalize hT : tlP (p, b) false ms = T at *
  have hB := rebase h
  have okb := ok_base rok_mk w0 (Av.get w0 σ)
  rw [pUn_not, pIf_b]
  refine ⟨fun hsub => spec_l11Marked h hu (pIf_b.2 ⟨fun e => same (by rw [e, hsub]; simp), fun hma => ?_⟩), fun hsub => ?_⟩
  case' refine_1 => have hR := hput (by rw [hun, hma]; simp)
  case' refine_2 => have hR := hput (by rw [hun, hsub]; simp)
  all_goals
    intro bk h1 h2
    have kb : Keeps σ (σ.put bk ⟨t_impl_Mark, [], 0, (0, 0)⟩) := Keeps.put h2
    have hb0 : ∀ i, i ∈ [bk] → σ i = none := fun i hi => by rw [List.mem_singleton.1 hi]; exact h2
    refine loop_rule (m := ms.length) (fun m l s => ∃ (j : Nat) (v' : Value) (F : List Nat) (done : Bool) (out : List Mk), m + j = ms.length ∧ Keeps σ s ∧ OAcc w0 t_impl_Mark 2 (OB RMk (Av.get w0 σ)) s F v' out ∧ (∀ i, i ∈ F → σ i = none) ∧
        out ++ tlP (p, b) done (ms.drop j) = T ∧ l = [v, v', .bool done, .int .i64 (j : Nat), u, .bool b]) ?_
      ⟨0, _, [bk], false, [], by omega, kb, OAcc.new h1, hb0, by simpa using hT, rfl⟩
    rintro m l s L ⟨j, v', F, done, out, hm, ks, ho, hF, hout, rfl⟩ hL
    simp only [vget, List.getD_cons_zero, List.getD_cons_succ]
    have hs := hB.mono ks.le fun _ _ h => h
    have hus := hu.mono ks.le fun _ _ h => h
    have hme : RMk (Av.get w0 σ) [u, .bool b] (p, b) := ⟨u, rfl, hu⟩
    have hol : out.length ≤ 10001 := by
      have := congrArg List.length hout
      simp only [List.length_append] at this; omega
    have olds : ∀ {F' : List Nat}, (∀ i, i ∈ F' → i ∈ F ∨ s i = none) → ∀ i, i ∈ F' → σ i = none := fun f i hi => by
      rcases f i hi with e | e
      · exact hF i e
      · exact none_at ks e
    rw [hs.len, pBin_lt, pIf_d]
    refine ⟨fun hi => ?_, fun hi => ?_⟩
    · have hx := List.getElem?_eq_getElem (show j < ms.length by omega)
      have hdrop : ms.drop j = ms[j]'(by omega) :: ms.drop (j + 1) := List.drop_eq_getElem_cons (by omega)
      generalize ms[j]'(by omega) = x at hx hdrop
      rw [hdrop] at hout
      refine hs.at hx fun g hg => ?_
      simp only [expl] at hg
      have hg : RMk (Av.get w0 σ) [g 0, g 1] x := hg
      have g1 := rok_mk.one _ _ _ hg
      rw [pVal_2 (g1 _ (by simp)) (g1 _ (by simp))]
      have hgp : RSl 1 RS (Av.get w0 s) (g 0) x.1 := by
        obtain ⟨u1, hu1, hv⟩ := hg
        simp only [List.cons.injEq, and_true] at hu1
        rw [hu1.1]; exact hv.mono ks.le fun _ _ h => h
      have hkeep : ∀ (hk : keepM (p, b) x = true), pUn .not (.bool done) (fun v17 => pIf v17 (AC Tryz.prog w0 n_spec_l11Less [u, g 0] s (fun v18 s19 => pIf v18 (pVal true 2 (.agg (⟨[u, .bool b]⟩)) ((allOne [u, .bool b]) ∧ (pAppend w0 t_impl_Mark 2 32 v' 1 [u, .bool b] s19 (fun v20 s21 => pVal true 2 (.agg (⟨[g 0, g 1]⟩)) ((allOne [g 0, g 1]) ∧ (pAppend w0 t_impl_Mark 2 32 v20 1 [g 0, g 1] s21 (fun v22 s23 => pBin Tryz.prog 3 .add (.int .i64 (j : Nat)) (.int .i64 1) (fun v24 => L [v, v22, .bool true, v24, u, .bool b] s23)))))))) (pVal true 2 (.agg (⟨[g 0, g 1]⟩)) ((allOne [g 0, g 1]) ∧ (pAppend w0 t_impl_Mark 2 32 v' 1 [g 0, g 1] s19 (fun v25 s26 => pBin Tryz.prog 3 .add (.int .i64 (j : Nat)) (.int .i64 1) (fun v27 => L [v, v25, .bool done, v27, u, .bool b] s26)))))))
          (pVal true 2 (.agg (⟨[g 0, g 1]⟩)) ((allOne [g 0, g 1]) ∧ (pAppend w0 t_impl_Mark 2 32 v' 1 [g 0, g 1] s (fun v28 s29 => pBin Tryz.prog 3 .add (.int .i64 (j : Nat)) (.int .i64 1) (fun v30 => L [v, v28, .bool done, v30, u, .bool b] s29)))))) := fun hk => by
        have app : ∀ (d : Bool), out ++ x :: tlP (p, b) d (ms.drop (j + 1)) = T → pVal true 2 (.agg (⟨[g 0, g 1]⟩)) ((allOne [g 0, g 1]) ∧ (pAppend w0 t_impl_Mark 2 32 v' 1 [g 0, g 1] s (fun v28 s29 => pBin Tryz.prog 3 .add (.int .i64 (j : Nat)) (.int .i64 1) (fun v30 => L [v, v28, .bool d, v30, u, .bool b] s29)))) := fun d hd => by
          refine push_mk ho hg (by omega) fun v2 F2 s2 k2 o2 f2 => ?_
          rw [pBin_add (by omega)]
          exact hL _ _ (m - 1) (by omega) ⟨j + 1, v2, F2, d, _, by omega, k2.old ks hF, o2, olds f2, by simpa using hd, rfl⟩
        rw [pUn_not, pIf_b]
        refine ⟨fun hd => ?_, fun hd => ?_⟩
        · have hd : done = false := by simpa using hd
          subst hd
          refine spec_Less hus hgp (pIf_b.2 ⟨fun hlt => ?_, fun hlt => ?_⟩)
          · rw [tlP_here hk hlt] at hout
            refine push_mk ho hme (by omega) fun v2 F2 s2 k2 o2 f2 => ?_
            refine push_mk o2 hg (by simp; omega) fun v3 F3 s3 k3 o3 f3 => ?_
            rw [pBin_add (by omega)]
            have K2 := k2.old ks hF
            refine hL _ _ (m - 1) (by omega) ⟨j + 1, v3, F3, true, _, by omega, k3.old K2 (olds f2), o3, fun i hi => ?_, by simpa using hout, rfl⟩
            rcases f3 i hi with e | e
            · exact olds f2 i e
            · exact none_at K2 e
          · rw [tlP_far hk hlt] at hout
            exact app false hout
        · have hd : done = true := by simpa using hd
          subst hd
          rw [tlP_done hk] at hout
          exact app true hout
      rw [pIf_b]
      refine ⟨fun hb => ?_, fun hb => hkeep (by simp [keepM, hb])⟩
      refine spec_Within hgp hus (pIf_b.2 ⟨fun hw => ?_, fun hw => hkeep (by simp [keepM, hw])⟩)
      rw [pBin_add (by omega)]
      exact hL _ _ (m - 1) (by omega) ⟨j + 1, v', F, done, out, by omega, ks, ho, hF, by rw [tlP_skip (by simp [keepM, hb, hw])] at hout; exact hout, rfl⟩
    · have e : j = ms.length := by omega
      subst e
      rw [List.drop_length] at hout
      show pUn .not (.bool done) _
      rw [pUn_not, pIf_b]
      refine ⟨fun hd => ?_, fun hd => ?_⟩
      · have hd : done = false := by simpa using hd
        subst hd
        refine push_mk ho hme (by omega) fun v2 F2 s2 k2 o2 f2 => ?_
        have K2 := k2.old ks hF
        refine hR _ _ K2 ?_
        rw [show tlP (p, b) false [] = [(p, b)] from rfl] at hout
        rw [hout] at o2
        exact (o2.osl.rel okb).unbase rok_mk K2.le
      · have hd : done = true := by simpa using hd
        subst hd
        refine hR _ _ ks ?_
        rw [show tlP (p, b) true [] = [] from rfl, List.append_nil] at hout
        rw [hout] at ho
        exact (ho.osl.rel okb).unbase rok_mk ks.le
end
end Go.Proofs.YtkbhjejalkbogaaGreat

/- The trail to which a mark is added, by the reference's hand. -/
set_option linter.unusedVariables false
set_option linter.unusedSimpArgs false
namespace Go.Proofs.YtkbhjejalkbogaaGreat
open Go Go.Av

/-- What an addition gives. -/
def AddR (ms : List Mk) (x : Mk) (r : List Mk) : Prop :=
  (trailOk ms = false ∧ r = []) ∨ (trailOk ms = true ∧ markOkB x = false ∧ r = ms) ∨ (trailOk ms = true ∧ markOkB x = true ∧ r.length ≤ 6 ∧ Lp (putM ms x) r)
theorem markOk_len {x : Mk} (h : markOkB x = true) : x.1.length ≤ 4 := by
  unfold markOkB at h
  split at h
  · rename_i e; rw [e]; simp
  · simp only [Bool.and_eq_true, inB, decide_eq_true_iff] at h
    omega
theorem coarse_small {ms : List Mk} {n : Nat} (hne : ms ≠ []) (h : ∀ m, m ∈ ms → m.1.length ≤ n) : ∀ m, m ∈ coarseM ms → m.1.length ≤ n := fun m hm => by
  rcases put_mem hm with e | e
  · rw [e]
    have := h _ (List.mem_of_getElem? (best_at hne))
    simp only [upM, List.length_take]; omega
  · exact h m e
theorem Lp.small {ms r : List Mk} {n : Nat} (hl : Lp ms r) (h : ∀ m, m ∈ ms → m.1.length ≤ n) : ∀ m, m ∈ r → m.1.length ≤ n := by
  induction hl with
  | stop _ => exact h
  | step k _ ih => exact ih (coarse_small (fun e => by simp [e] at k) h)
theorem AddR.small {ms r : List Mk} {x : Mk} (h : AddR ms x r) : r.length ≤ 6 ∧ ∀ m, m ∈ r → m.1.length ≤ 4 := by
  rcases h with ⟨h1, rfl⟩ | ⟨h1, h2, rfl⟩ | ⟨h1, h2, h3, h4⟩
  · simp
  · have := trail_TrP h1
    exact ⟨this.2.1, fun m hm => markOk_len (this.2.2 m hm)⟩
  · have := trail_TrP h1
    refine ⟨h3, h4.small fun m hm => ?_⟩
    rcases put_mem hm with e | e
    · rw [e]; exact markOk_len h2
    · exact markOk_len (this.2.2 m e)

section
variable {w0 : World} {σ : Vw}

theorem lenAt_some {l : List Mk} {j : Nat} {x : Mk} (h : l[j]? = some x) : lenAt l j = x.1.length := by simp [lenAt, h]
theorem bestTo_step {l : List Mk} {j : Nat} {x y : Mk} (hx : l[j]? = some x) (hy : l[bestTo l j]? = some y) : bestTo l (j + 1) = if y.1.length ≤ x.1.length then j else bestTo l j := by
  simp only [bestTo, lenAt_some hx, lenAt_some hy]

theorem spec_copyM {v : Value} {ms : List Mk} (h : RSl 2 RMk (Av.get w0 σ) v ms) (hl : ms.length ≤ 1000000) (hp : ∀ m, m ∈ ms → m.1.length ≤ 1000000) {R : Value → Vw → Prop}
    (hR : ∀ v' F σ', Keeps σ σ' → OAcc w0 t_impl_Mark 2 (OMk w0) σ' F v' ms → (∀ b, b ∈ F → σ b = none) → R v' σ') : AC Tryz.prog w0 n_spec_l11Copy [v] σ R := by
  refine ac_spec_l11Copy ?_
  unfold vc_spec_l11Copy
  intro b h1 h2
  have kb : Keeps σ (σ.put b ⟨t_impl_Mark, [], 0, (0, 0)⟩) := Keeps.put h2
  have hb0 : ∀ i, i ∈ [b] → σ i = none := fun i hi => by rw [List.mem_singleton.1 hi]; exact h2
  refine loop_rule (m := ms.length) (fun m l s => ∃ (j : Nat) (v' : Value) (F : List Nat), m + j = ms.length ∧ Keeps σ s ∧ OAcc w0 t_impl_Mark 2 (OMk w0) s F v' (ms.take j) ∧ (∀ i, i ∈ F → σ i = none) ∧ l = [v, v', .int .i64 (j : Nat)]) ?_
    ⟨0, _, [b], by omega, kb, OAcc.new h1, hb0, rfl⟩
  rintro m l s L ⟨j, v', F, hm, ks, ho, hF, rfl⟩ hL
  simp only [vget, List.getD_cons_zero, List.getD_cons_succ]
  have h' := h.mono ks.le fun es x => mono_mk ks.le
  rw [h'.len, pBin_lt, pIf_d]
  refine ⟨fun hi => ?_, fun hi => ?_⟩
  · have hx := List.getElem?_eq_getElem (show j < ms.length by omega)
    generalize hxi : ms[j]'(by omega) = y at hx
    have hyl := hp y (List.mem_of_getElem? hx)
    refine h'.atfp hx 0 (by omega) fun q0 es g hg0 hg => ?_
    obtain ⟨u, rfl, hu⟩ := hg0
    simp only [List.getElem?_cons_zero, List.getElem?_cons_succ, Option.some.injEq] at hg
    refine h'.atfp hx 1 (by omega) fun q1 es g' hg1 hg' => ?_
    obtain ⟨u', rfl, hu'⟩ := hg1
    simp only [List.getElem?_cons_zero, List.getElem?_cons_succ, Option.some.injEq] at hg'
    rw [← hg, ← hg']
    intro c h3 h4
    have kc : Keeps s (s.put c ⟨t_string, [], 0, (0, 0)⟩) := Keeps.put h4
    have hc0 : ∀ i, i ∈ [c] → s i = none := fun i hi => by rw [List.mem_singleton.1 hi]; exact h4
    refine ⟨kc.stay, kc.stay, ?_⟩
    refine (OAcc.new (w0 := w0) (σ := s) (ety := t_string) (n := 1) (O := OStr) h3).allX (ok_str w0) hu kc.le (fun es y hy => ⟨rfl, hy⟩) (by simp; omega) (by omega) fun u2 F1 s1 hext k1 o1 g1 => ⟨fun a g _ hc j hj => Ext.le hext _ _ (hc j hj), ?_⟩
    rw [List.nil_append] at o1
    have K1 := k1.old kc hc0
    have hF1 := fresh_in kc hc0 g1
    rw [pVal1 (OSl.one' o1.osl), pVal1 rfl, pVal_2 (OSl.one' o1.osl) rfl]
    have ho1 := ho.frame (ok_mk w0) (K1.but_at fun b hb => (ho.dom (ok_mk w0) b hb).2)
    refine ho1.one (ok_mk w0) (f := F1) (y := y) ⟨u2, rfl, o1.osl⟩ (fun i hi hi' => (ho.dom (ok_mk w0) i hi').2 (hF1 i hi)) (by rw [List.length_take]; omega) (by omega) fun v4 F4 s4 k4 o4 g4 => ?_
    rw [pBin_add (by omega)]
    have KS := ks.trans K1
    refine hL _ _ (m - 1) (by omega) ⟨j + 1, v4, F4, by omega, k4.old KS hF, ?_, fun i hi => ?_, by simp⟩
    · rw [List.take_add_one, hx]; exact o4
    · rcases g4 i hi with h | h | h
      · exact hF i h
      · exact none_at ks (hF1 i h)
      · exact none_at KS h
  · have e : j = ms.length := by omega
    subst e
    rw [List.take_length] at ho
    exact hR v' F s ks ho hF

set_option maxHeartbeats 1000000 in
theorem spec_l11Coarser {v : Value} {ms : List Mk} (h : RSl 2 RMk (Av.get w0 σ) v ms) (hl : ms.length ≤ 10000) (h2 : 2 ≤ ms.length) (ha : AscM ms) (hp : ∀ m, m ∈ ms → m.1.length ≤ 1000000) {R : Value → Vw → Prop}
    (hR : ∀ v' σ', Keeps σ σ' → RSl 2 RMk (Av.get w0 σ') v' (coarseM ms) → R v' σ') : AC Tryz.prog w0 n_spec_l11Coarser [v] σ R := by
  refine ac_spec_l11Coarser ?_
  unfold vc_spec_l11Coarser
  have hne : ms ≠ [] := fun e => by simp [e] at h2
  refine loop_rule (m := ms.length) (fun m l t => ∃ j, t = σ ∧ m + j = ms.length + 1 ∧ 1 ≤ j ∧ j ≤ ms.length ∧ l = [v, .int .i64 (bestTo ms j : Nat), .int .i64 (j : Nat)]) ?_ ⟨1, rfl, rfl, by omega, by omega, by rw [best_one]; rfl⟩
  rintro m l t L ⟨j, rfl, hm, hj1, hj2, rfl⟩ hL
  simp only [vget, List.getD_cons_zero, List.getD_cons_succ]
  rw [h.len, pBin_lt, pIf_d]
  have hbl := best_lt (k := j) hne (by omega)
  refine ⟨fun hj => ?_, fun hj => ?_⟩
  · have hx := List.getElem?_eq_getElem (show j < ms.length by omega)
    have hy := List.getElem?_eq_getElem hbl
    generalize ms[j]'(by omega) = x at hx
    generalize ms[bestTo ms j] = y at hy
    have hst := bestTo_step hx hy
    refine RSl.fld h hx (by omega) fun g1 es hes he => ?_
    obtain ⟨u1, rfl, hu1⟩ := hes
    simp at he
    rw [← he, hu1.len]
    refine RSl.fld h hy (by omega) fun g2 es hes he => ?_
    obtain ⟨u2, rfl, hu2⟩ := hes
    simp at he
    rw [← he, hu2.len, pBin_ge, pIf_d]
    refine ⟨fun hge => ?_, fun hlt => ?_⟩
    · rw [pBin_add (by omega)]
      refine hL _ _ (m - 1) (by omega) ⟨j + 1, rfl, by omega, by omega, by omega, ?_⟩
      rw [hst, if_pos (by omega)]; rfl
    · rw [pBin_add (by omega)]
      refine hL _ _ (m - 1) (by omega) ⟨j + 1, rfl, by omega, by omega, by omega, ?_⟩
      rw [hst, if_neg (by omega)]; rfl
  · have e : j = ms.length := by omega
    subst e
    have hb := best_at hne
    have hpos := best_pos ha h2
    have hpl := hp _ (List.mem_of_getElem? hb)
    refine RSl.fld h hb (by omega) fun g1 es hes he => ?_
    obtain ⟨u1, rfl, hu1⟩ := hes
    simp at he
    rw [← he]
    intro c h3 h4
    have kc : Keeps t (t.put c ⟨t_string, [], 0, (0, 0)⟩) := Keeps.put h4
    have hc0 : ∀ i, i ∈ [c] → t i = none := fun i hi => by rw [List.mem_singleton.1 hi]; exact h4
    rw [hu1.len, pBin_sub (by omega), show (((bestM ms).1.length : Nat) : Int) - 1 = (((bestM ms).1.length - 1 : Nat) : Int) by omega]
    refine RSl.take hu1 (by omega) fun v' hv' => ?_
    refine (OAcc.new (w0 := w0) (σ := t) (ety := t_string) (n := 1) (O := OStr) h3).all (ok_str w0) hv' kc.le (fun es y hy => ⟨rfl, hy⟩) (by simp; omega) (by omega) fun u' F1 s1 k1 o1 g1 => ?_
    rw [List.nil_append] at o1
    have K1 := k1.old kc hc0
    rw [pVal1 (OSl.one' o1.osl), pVal1 rfl]
    exact spec_l11Put (h.mono K1.le fun es x => mono_mk K1.le) (o1.osl.rel (ok_str w0)) hl fun v2 s2 k2 r2 => hR v2 s2 (K1.trans k2) r2

theorem spec_TrailAdd {v : Value} {ms : List Mk} {es : List Value} {x : Mk} (h : RSl 2 RMk (Av.get w0 σ) v ms) (hx : RMk (Av.get w0 σ) es x) {R : Value → Vw → Prop}
    (hR : ∀ r, AddR ms x r → OutM w0 σ r R) : AC Tryz.prog w0 n_spec_TrailAdd [v, .agg ⟨es⟩] σ R := by
  refine ac_spec_TrailAdd ?_
  unfold vc_spec_TrailAdd
  have hx0 := hx
  obtain ⟨u, rfl, hu⟩ := hx
  rw [pVal_2 hu.one rfl]
  simp only [cellOf_agg, List.getD_cons_zero, List.getD_cons_succ]
  refine spec_TrailOk h ?_
  rw [pUn_not, pIf_b]
  refine ⟨fun e => marks_none (hR [] (.inl ⟨by simpa using e, rfl⟩)), fun e => ?_⟩
  have hok : trailOk ms = true := by simpa using e
  obtain ⟨ht, hl, hmk⟩ := trail_TrP hok
  refine spec_copyM h (by omega) (fun m hm => by have := markOk_len (hmk m hm); omega) fun v1 F1 s1 k1 o1 f1 => ?_
  have r1 := o1.osl.rel (ok_mk w0)
  refine spec_MarkOk (mono_mk k1.le hx0) ?_
  rw [pUn_not, pIf_b]
  refine ⟨fun e => hR ms (.inr (.inl ⟨hok, by simpa using e, rfl⟩)) _ _ _ k1 o1.osl f1, fun e => ?_⟩
  have hme : markOkB x = true := by simpa using e
  have hxl := markOk_len hme
  refine spec_l11Put (p := x.1) (b := x.2) r1 (hu.mono k1.le fun _ _ h => h) (by omega) fun v2 s2 k2 r2 => ?_
  have hpl := put_len (l := ms) (m := x)
  refine loop_rule (m := sumP (putM ms x)) (fun c l s => ∃ (v' : Value) (L : List Mk), sumP L ≤ c ∧ Keeps σ s ∧ TrP L ∧ L.length ≤ 10000 ∧ (∀ m, m ∈ L → m.1.length ≤ 4) ∧ (∀ r, Lp L r → Lp (putM ms x) r) ∧ RSl 2 RMk (Av.get w0 s) v' L ∧ l = [v']) ?_
    ⟨v2, _, Nat.le_refl _, k1.trans k2, ht.put, by omega, fun m hm => by
      rcases put_mem hm with e | e
      · rw [e]; exact hxl
      · exact markOk_len (hmk m e), fun r hr => hr, r2, rfl⟩
  rintro c l s L' ⟨v', L, hc, ks, htL, hlL, hpL, hst, hr, rfl⟩ hL
  simp only [vget, List.getD_cons_zero, List.getD_cons_succ]
  rw [hr.len, pBin_gt, pIf_d]
  refine ⟨fun h6 => ?_, fun h6 => ?_⟩
  · have hlt := coarse_sum htL (by omega)
    have hne : L ≠ [] := fun e => by simp [e] at h6
    refine spec_l11Coarser hr hlL (by omega) htL.1 (fun m hm => by have := hpL m hm; omega) fun v3 s3 k3 r3 => ?_
    refine hL _ _ (c - 1) (by omega) ⟨v3, coarseM L, by omega, ks.trans k3, htL.put, ?_, coarse_small hne hpL, fun r hr => hst r (.step (by omega) hr), r3, rfl⟩
    rw [coarse_eq htL (by omega)]
    have := put_len (l := delBest L) (m := upM (bestM L))
    have := del_len hne
    omega
  · show AC Tryz.prog w0 n_spec_l11Copy [v'] s _
    refine spec_copyM hr (by omega) (fun m hm => by have := hpL m hm; omega) fun v4 F4 s4 k4 o4 f4 => ?_
    exact hR L (.inr (.inr ⟨hok, hme, by omega, hst L (.stop (by omega))⟩)) _ _ _ (ks.trans k4) o4.osl fun b hb => none_at ks (f4 b hb)
end
end Go.Proofs.YtkbhjejalkbogaaGreat

/- The trail to which a mark is added, by the program's hand. -/
set_option linter.unusedVariables false
set_option linter.unusedSimpArgs false
namespace Go.Proofs.YtkbhjejalkbogaaGreat
open Go Go.Av

section
variable {w0 : World} {σ : Vw}

end
end Go.Proofs.YtkbhjejalkbogaaGreat

/- The law 'TrailAdd', of the functions alone. -/
set_option linter.unusedVariables false
set_option linter.unusedSimpArgs false
namespace Go.Proofs.YtkbhjejalkbogaaGreat
open Go Go.Av

section
variable {w0 : World} {σ : Vw}

end
end Go.Proofs.YtkbhjejalkbogaaGreat

/- How many paths there are in either of two parts, by the program's hand; 'TrailBelow' and its law. -/
set_option linter.unusedVariables false
set_option linter.unusedSimpArgs false
set_option maxRecDepth 20000
namespace Go.Proofs.YtkbhjejalkbogaaGreat
open Go Go.Av

theorem short_up : ∀ {n : Nat} {x : Tr}, shortT n x → shortT (n + 1) x
  | 0, _, h => h.elim
  | n + 1, .mk d m t ns ks, h => ⟨h.1, h.2.1, h.2.2.1, h.2.2.2.1, fun k hk => short_up (h.2.2.2.2 k hk)⟩
theorem cnt_up : ∀ {n : Nat} {x : Tr}, shortT n x → cntT (n + 1) x = cntT n x
  | 0, _, h => h.elim
  | n + 1, .mk d m t ns ks, h => by
    show ks.length + sumBy (cntT (n + 1)) ks = ks.length + sumBy (cntT n) ks
    rw [sumBy_congr fun k hk => cnt_up (h.2.2.2.2 k hk)]
theorem asc_up : ∀ {n : Nat} {x : Tr}, shortT n x → ascT n x → ascT (n + 1) x
  | 0, _, h, _ => h.elim
  | n + 1, .mk d m t ns ks, h, ha => ⟨ha.1, fun k hk => asc_up (h.2.2.2.2 k hk) (ha.2 k hk)⟩
theorem fine_up {n : Nat} {x : Tr} (h : fineT n x) : fineT (n + 1) x := ⟨short_up h.1, by rw [cnt_up h.1]; exact h.2.1, asc_up h.1 h.2.2⟩
theorem fine_at : ∀ (ps : List ByteArray) {n : Nat} {x y : Tr}, fineT n x → atT x ps = some y → fineT n y
  | [], _, x, y, h, e => by
    have : some x = some y := by cases x; exact e
    cases this; exact h
  | p :: r, 0, x, y, h, e => h.1.elim
  | p :: r, n + 1, x, y, h, e => by
    obtain ⟨d, m, t, ns, ks⟩ := x
    unfold atT at e
    cases hk : kidT (.mk d m t ns ks) p with
    | none => rw [hk] at e; simp at e
    | some k =>
      rw [hk] at e
      simp only [Option.bind_some] at e
      exact fine_up (fine_at r (fine_kid h (kid_mem hk)) e)
noncomputable def belowM (x y : Tr) (ms : List Mk) : Nat := sumBy (fun m : Mk => if m.2 = true then unT 5 (atT x m.1) (atT y m.1) else 0) ms
noncomputable def belowX (n m : Nat) (x y : Tr) (ms : List Mk) : Nat := if (treeOk n x = true ∧ treeOk m y = true) ∧ trailOk ms = true then belowM x y ms else 0
theorem at_cnt : ∀ (ps : List ByteArray) {n : Nat} {x y : Tr}, fineT n x → atT x ps = some y → cntT n y ≤ cntT n x
  | [], _, x, y, h, e => by
    have : some x = some y := by cases x; exact e
    cases this; exact Nat.le_refl _
  | p :: r, 0, x, y, h, e => h.1.elim
  | p :: r, n + 1, x, y, h, e => by
    obtain ⟨d, m, t, ns, ks⟩ := x
    unfold atT at e
    cases hk : kidT (.mk d m t ns ks) p with
    | none => rw [hk] at e; simp at e
    | some k =>
      rw [hk] at e
      simp only [Option.bind_some] at e
      have hf := fine_kid h (kid_mem hk)
      have h1 := at_cnt r hf e
      have h2 := fine_at r hf e
      rw [cnt_up h2.1]
      have h3 := sumBy_mem (f := cntT n) (show k ∈ ks from kid_mem hk)
      show _ ≤ ks.length + sumBy (cntT n) ks
      omega
theorem at_cntO {n : Nat} {x : Tr} (h : fineT n x) (ps : List ByteArray) : cntO n (atT x ps) ≤ cntT n x + 1 := by
  cases e : atT x ps with
  | none => exact Nat.zero_le _
  | some y => have := at_cnt ps h e; simp only [cntO]; omega
theorem at_fineO {n : Nat} {x : Tr} (h : fineT n x) (ps : List ByteArray) : fineO n (atT x ps) := fun y e => fine_at ps h e
section
variable {w0 : World} {σ : Vw}

theorem impl_both : ∀ (n : Nat) {σ : Vw} {p q : Value} {a b : Option Tr} {R : Value → Vw → Prop}, PO n (Av.get w0 σ) p a → PO n (Av.get w0 σ) q b → fineO n a → fineO n b → (∀ s, Keeps σ s → R (.int .i64 (unT n a b : Nat)) s) → AC Tryz.prog w0 n_impl_both [p, q] σ R := by
  intro n
  induction n with
  | zero =>
    intro σ p q a b R ha hb _ _ hR
    cases a with
    | some x => obtain ⟨_, _, _, _, _, h⟩ := ha; exact h.elim
    | none => cases b with
      | some x => obtain ⟨_, _, _, _, _, h⟩ := hb; exact h.elim
      | none =>
        obtain rfl : p = .pointer none := ha
        obtain rfl : q = .pointer none := hb
        refine ac_impl_both ?_
        unfold vc_impl_both cs_impl_both_1
        rw [pBin_nil ptr_tree, pIf_b]
        refine ⟨fun _ => ?_, fun h => by cases h⟩
        rw [pBin_nil ptr_tree, pIf_b]
        exact ⟨fun _ => hR _ (Keeps.refl _), fun h => by cases h⟩
  | succ n ih =>
    intro σ p q a b R ha hb hfa hfb hR
    refine ac_impl_both ?_
    unfold vc_impl_both cs_impl_both_1
    have hun := unT_le (n + 1) a b
    cases a with
    | none =>
      obtain rfl : p = .pointer none := ha
      rw [pBin_nil ptr_tree, pIf_b]
      refine ⟨fun _ => ?_, fun h => by cases h⟩
      cases b with
      | none =>
        obtain rfl : q = .pointer none := hb
        rw [pBin_nil ptr_tree, pIf_b]
        exact ⟨fun _ => hR _ (Keeps.refl _), fun h => by cases h⟩
      | some y =>
        obtain ⟨f1, f2, f3⟩ := hfb y rfl
        have hb' := hb
        obtain ⟨ad, es, rfl, _⟩ := hb'
        rw [pBin_nil ptr_tree, pIf_b]
        refine ⟨fun h => (by cases h), fun _ => ?_⟩
        rw [pBin_nil ptr_tree, pIf_b]
        refine ⟨fun _ => ?_, fun h => by cases h⟩
        rw [pNil_s]
        refine PT.load hb fun g hg => ?_
        refine impl_paths (n + 1) hg (by omega) ?_
        exact hR _ (Keeps.refl _)
    | some x =>
      obtain ⟨a1, a2, a3⟩ := hfa x rfl
      have ha' := ha
      obtain ⟨ad, es, rfl, _⟩ := ha'
      rw [pBin_nil ptr_tree, pIf_b]
      refine ⟨fun h => (by cases h), fun _ => ?_⟩
      rw [pBin_nil ptr_tree, pIf_b]
      refine ⟨fun h => (by cases h), fun _ => ?_⟩
      cases b with
      | none =>
        obtain rfl : q = .pointer none := hb
        rw [pBin_nil ptr_tree, pIf_b]
        refine ⟨fun _ => ?_, fun h => by cases h⟩
        rw [pNil_s]
        refine PT.load ha fun g hg => ?_
        refine impl_paths (n + 1) hg (by omega) ?_
        exact hR _ (Keeps.refl _)
      | some y =>
        obtain ⟨b1, b2, b3⟩ := hfb y rfl
        have hb' := hb
        obtain ⟨bd, es', rfl, _⟩ := hb'
        have ha : PT (n + 1) (Av.get w0 σ) (.pointer (some ad)) x := ha
        have hb : PT (n + 1) (Av.get w0 σ) (.pointer (some bd)) y := hb
        rw [pBin_nil ptr_tree, pIf_b]
        refine ⟨fun h => (by cases h), fun _ => ?_⟩
        have hx : fineT (n + 1) x := ⟨a1, a2, a3⟩
        have hy : fineT (n + 1) y := ⟨b1, b2, b3⟩
        have hl1 := fine_len hx
        have hl2 := fine_len hy
        simp only [cntO] at hun
        have hsum : unT (n + 1) (some x) (some y) = 1 + sumBy (fun nm => unT n (kidT x nm) (kidT y nm)) (namesU (namesOf x ++ namesOf y)) := by
          show 1 + sumBy _ (mrgK (partsOf x) (partsOf y)) = _
          rw [mrg_kids hx hy, sumBy_map']
        have hLl := names_both hx hy
        refine impl_either ha hb (by omega) fun nv F s1 k1 on fn => ?_
        rw [(on.rel (ok_str w0)).len]
        generalize namesU (namesOf x ++ namesOf y) = L at *
        generalize hW : (fun nm => unT n (kidT x nm) (kidT y nm)) = W at hsum
        refine loop_rule (m := L.length) (fun c l st => ∃ j : Nat, c + j = L.length ∧ Keeps σ st ∧ OStrs w0 st F nv L ∧
            l = [.pointer (some ad), .pointer (some bd), .int .i64 ((1 + sumBy W (L.take j) : Nat) : Int), nv, .int .i64 (L.length : Nat), .int .i64 (j : Nat)]) ?_
          ⟨0, by omega, k1, on, by simp [sumBy]⟩
        rintro c l st L' ⟨j, hcj, ks, hon, rfl⟩ hL'
        simp only [vget, List.getD_cons_zero, List.getD_cons_succ]
        have onr := hon.rel (ok_str w0)
        rw [pBin_lt, pIf_d]
        refine ⟨fun hj => ?_, fun hj => ?_⟩
        · have hnm := List.getElem?_eq_getElem (show j < L.length by omega)
          generalize L[j]'(by omega) = nm at hnm
          refine RSl.at1 onr hnm fun g hg hgs => ?_
          rw [hg]
          refine impl_kid (ha.mono ks.le) (short_wf _ _ a1) fun qa hqa => ?_
          refine impl_kid (hb.mono ks.le) (short_wf _ _ b1) fun qb hqb => ?_
          refine ih hqa hqb (kid_fine hfa nm) (kid_fine hfb nm) fun s4 k4 => ?_
          have hW1 : unT n (kidT x nm) (kidT y nm) = W nm := by rw [← hW]
          rw [hW1]
          have hst := sumBy_take (f := W) hnm
          have hsl := sumBy_le (f := W) (xs := L) (j + 1)
          rw [pBin_add (by omega), pBin_add (by omega)]
          refine hL' _ _ (c - 1) (by omega) ⟨j + 1, by omega, ks.trans k4, hon.frame (ok_str w0) (k4.but_at fun i hi => (hon.dom (ok_str w0) i hi).2), ?_⟩
          rw [hst]
          congr 4
          omega
        · have e : j = L.length := by omega
          subst e
          rw [List.take_length]
          show R (.int .i64 ((1 + sumBy W L : Nat) : Int)) st
          rw [← hsum]
          exact hR st ks

theorem below_take {x y : Tr} {ms : List Mk} (hx : fineT 5 x) (hy : fineT 5 y) (cx : cntT 5 x ≤ 30) (cy : cntT 5 y ≤ 30) (j : Nat) : belowM x y (ms.take j) ≤ 62 * j := by
  have := sumBy_bound (f := fun m : Mk => if m.2 = true then unT 5 (atT x m.1) (atT y m.1) else 0) (c := 62) (xs := ms.take j) fun m _ => by
    have h1 := unT_le 5 (atT x m.1) (atT y m.1)
    have h2 := at_cntO hx m.1
    have h3 := at_cntO hy m.1
    split <;> omega
  have hl : (ms.take j).length ≤ j := by rw [List.length_take]; omega
  exact Nat.le_trans this (Nat.mul_le_mul_left _ hl)
theorem below_step {x y : Tr} {ms : List Mk} {j : Nat} {m : Mk} (hj : ms[j]? = some m) : belowM x y (ms.take (j + 1)) = belowM x y (ms.take j) + (if m.2 = true then unT 5 (atT x m.1) (atT y m.1) else 0) := sumBy_take hj
theorem ok_fineT {n : Nat} {x : Tr} (h : treeOk n x = true) : (∀ rd es, RT n rd es x → RT 5 rd es x) ∧ fineT 5 x ∧ cntT 5 x ≤ 30 := by
  obtain ⟨d1, x1, c1, a1⟩ := ok_fine h
  exact ⟨d1, ⟨x1, by omega, a1⟩, c1⟩

theorem spec_TrailBelow {n m : Nat} {es es' : List Value} {v : Value} {x y : Tr} {ms : List Mk} (h : RT n (Av.get w0 σ) es x) (h' : RT m (Av.get w0 σ) es' y) (hv : RSl 2 RMk (Av.get w0 σ) v ms) (hb : cntT n x ≤ 1000000000000) (hb' : cntT m y ≤ 1000000000000) {R : Value → Vw → Prop}
    (hR : ∀ s, Keeps σ s → R (.int .i64 (belowX n m x y ms : Nat)) s) : AC Tryz.prog w0 n_spec_TrailBelow [.agg ⟨es⟩, .agg ⟨es'⟩, v] σ R := by
  have h0 := h
  have h0' := h'
  obtain ⟨u, w, rfl, _, _, _, _, hp⟩ := h.cells
  obtain ⟨u', w', rfl, _, _, _, _, hp'⟩ := h'.cells
  refine ac_spec_TrailBelow ?_
  unfold vc_spec_TrailBelow
  rw [hp, hp']
  simp only [cellOf_agg, List.getD_cons_zero, List.getD_cons_succ]
  have no : ¬ ((treeOk n x = true ∧ treeOk m y = true) ∧ trailOk ms = true) → R (.int .i64 0) σ := fun hno => by
    have := hR σ (Keeps.refl _)
    rw [belowX, if_neg hno] at this; exact this
  refine spec_TreeOk h0 hb (pNotIf.2 ⟨fun hno => no (by rw [hno]; simp), fun hok => ?_⟩)
  refine spec_TreeOk h0' hb' (pNotIf.2 ⟨fun hno => no (by rw [hno]; simp), fun hok' => ?_⟩)
  refine spec_TrailOk hv (pNotIf.2 ⟨fun hno => no (by rw [hno]; simp), fun hmk => ?_⟩)
  obtain ⟨d1, x1, c1⟩ := ok_fineT hok
  obtain ⟨d2, x2, c2⟩ := ok_fineT hok'
  have hl := hv.le
  have hm6 := (trail_TrP hmk).2.1
  have hfin : R (.int .i64 (belowM x y ms : Nat)) = R (.int .i64 (belowX n m x y ms : Nat)) := by rw [belowX, if_pos ⟨⟨hok, hok'⟩, hmk⟩]
  refine loop_rule (m := ms.length) (fun c l st => ∃ j : Nat, c + j = ms.length ∧ Keeps σ st ∧
      l = [v, .int .i64 (belowM x y (ms.take j) : Nat), .int .i64 (j : Nat), .bool (isDir x), .int .i64 (modeOf x), .string (dataOf x), u, w, .bool (isDir y), .int .i64 (modeOf y), .string (dataOf y), u', w']) ?_
    ⟨0, by omega, Keeps.refl _, by simp [belowM, sumBy]⟩
  rintro c l st L ⟨j, hcj, ks, rfl⟩ hL
  simp only [vget, List.getD_cons_zero, List.getD_cons_succ]
  have hv' := hv.mono ks.le fun _ _ => mono_mk ks.le
  rw [hv'.len, pBin_lt, pIf_d]
  refine ⟨fun hj => ?_, fun hj => ?_⟩
  · have hmj := List.getElem?_eq_getElem (show j < ms.length by omega)
    generalize ms[j]'(by omega) = mk at hmj
    have hbt := below_take (ms := ms) x1 x2 c1 c2 (j + 1)
    have hst := below_step (x := x) (y := y) hmj
    rw [hst] at hbt
    refine RSl.atf hv' hmj 0 (by omega) fun e1 g1 r1 q1 => ?_
    obtain ⟨uu, rfl, ru⟩ := r1
    simp only [List.getElem?_cons_zero, Option.some.injEq] at q1
    rw [← q1]
    refine spec_At mk.1 (mono_rt _ _ _ _ _ ks.le (d1 _ _ h0)) (short_wf _ _ x1.1) ru fun ea hea => ?_
    have hea0 := hea
    obtain ⟨ua, wa, rfl, _, _, _, _, hpa⟩ := hea.cells
    rw [pExtract_s rfl, pExtract_s rfl, hpa]
    refine RSl.atf hv' hmj 0 (by omega) fun e2 g2 r2 q2 => ?_
    obtain ⟨uu2, rfl, ru2⟩ := r2
    simp only [List.getElem?_cons_zero, Option.some.injEq] at q2
    rw [← q2]
    refine spec_At mk.1 (mono_rt _ _ _ _ _ ks.le (d2 _ _ h0')) (short_wf _ _ x2.1) ru2 fun eb heb => ?_
    have heb0 := heb
    obtain ⟨ub, wb, rfl, _, _, _, _, hpb⟩ := heb.cells
    rw [pExtract_s rfl, pExtract_s rfl, hpb]
    refine RSl.atf hv' hmj 1 (by omega) fun e3 g3 r3 q3 => ?_
    obtain ⟨uu3, rfl, ru3⟩ := r3
    simp only [List.getElem?_cons_zero, List.getElem?_cons_succ, Option.some.injEq] at q3
    rw [← q3, pIf_b]
    have skip : (if mk.2 = true then unT 5 (atT x mk.1) (atT y mk.1) else 0) = 0 → ∀ s, Keeps σ s → L [v, .int .i64 (belowM x y (ms.take j) : Nat), .int .i64 ((j : Nat) + 1), .bool (isDir x), .int .i64 (modeOf x), .string (dataOf x), u, w, .bool (isDir y), .int .i64 (modeOf y), .string (dataOf y), u', w'] s := fun h0 s hs => hL _ _ (c - 1) (by omega) ⟨j + 1, by omega, hs, by rw [hst, h0]; simp⟩
    refine ⟨fun hsub => ?_, fun hsub => ?_⟩
    · rw [if_pos hsub] at hst hbt
      have fa := at_fineO x1 mk.1
      have fb := at_fineO x2 mk.1
      have UN : ¬ (atT x mk.1 = none ∧ atT y mk.1 = none) → AC Tryz.prog w0 n_spec_l12Union ([.agg (⟨[.bool (isDir ((atT x mk.1).getD zeroT)), .int .i64 (modeOf ((atT x mk.1).getD zeroT)), .string (dataOf ((atT x mk.1).getD zeroT)), ua, wa]⟩), .agg (⟨[.bool (isDir ((atT y mk.1).getD zeroT)), .int .i64 (modeOf ((atT y mk.1).getD zeroT)), .string (dataOf ((atT y mk.1).getD zeroT)), ub, wb]⟩)]) st
          (fun v31 s32 => pBin Tryz.prog 3 .add (.int .i64 (belowM x y (ms.take j) : Nat)) v31 (fun v33 => pBin Tryz.prog 3 .add (.int .i64 (j : Nat)) (.int .i64 1) (fun v34 => L [v, v33, v34, .bool (isDir x), .int .i64 (modeOf x), .string (dataOf x), u, w, .bool (isDir y), .int .i64 (modeOf y), .string (dataOf y), u', w'] s32))) := fun hne => by
        refine spec_Union 5 hea0 heb0 (fine_getD (n := 4) fa) (fine_getD (n := 4) fb) fun s3 k3 => ?_
        rw [unS_eq 5 _ _ hne fa fb, pBin_add (by omega), pBin_add (by omega)]
        refine hL _ _ (c - 1) (by omega) ⟨j + 1, by omega, ks.trans k3, ?_⟩
        rw [hst]
        simp
      simp only [cellOf_agg, List.getD_cons_zero, List.getD_cons_succ]
      rw [pIf_b]
      refine ⟨fun ha => UN fun h => by rw [h.1] at ha; simp at ha, fun ha => ?_⟩
      rw [pIf_b]
      refine ⟨fun hb2 => UN fun h => by rw [h.2] at hb2; simp at hb2, fun hb2 => ?_⟩
      rw [pBin_add (by omega)]
      refine skip ?_ st ks
      rw [if_pos hsub]
      have e1 : atT x mk.1 = none := by cases e : atT x mk.1 with
        | none => rfl
        | some z => rw [e] at ha; simp at ha
      have e2 : atT y mk.1 = none := by cases e : atT y mk.1 with
        | none => rfl
        | some z => rw [e] at hb2; simp at hb2
      rw [e1, e2]; rfl
    · rw [pBin_add (by omega)]
      exact skip (by rw [if_neg (by rw [hsub]; simp)]) st ks
  · have e : j = ms.length := by omega
    subst e
    show R (.int .i64 (belowM x y (ms.take ms.length) : Nat)) st
    rw [List.take_length]
    have := hR st ks
    rw [belowX, if_pos ⟨⟨hok, hok'⟩, hmk⟩] at this
    exact this

theorem PT_of {n : Nat} {s : Vw} {p : Value} {z : Tr} (hd : ∀ rd es, RT n rd es z → RT 5 rd es z) (hp : PT n (Av.get w0 s) p z) : PT 5 (Av.get w0 s) p z := by
  obtain ⟨ad, es, q1, q2, q3, q4⟩ := hp
  exact ⟨ad, es, q1, q2, q3, hd _ _ q4⟩

theorem impl_TrailBelow {n m : Nat} {es es' : List Value} {v : Value} {x y : Tr} {ms : List Mk} (h : RT n (Av.get w0 σ) es x) (h' : RT m (Av.get w0 σ) es' y) (hv : RSl 2 RMk (Av.get w0 σ) v ms) (hb : cntT n x ≤ 1000000000000) (hb' : cntT m y ≤ 1000000000000) {R : Value → Vw → Prop}
    (hR : ∀ s, Keeps σ s → R (.int .i64 (belowX n m x y ms : Nat)) s) : AC Tryz.prog w0 n_impl_TrailBelow [.agg ⟨es⟩, .agg ⟨es'⟩, v] σ R := by
  have h0 := h
  have h0' := h'
  obtain ⟨e0, e1, e2, e3, e4, rfl, _, hpv⟩ := RT.five h
  obtain ⟨e0', e1', e2', e3', e4', rfl, _, hpv'⟩ := RT.five h'
  refine ac_impl_TrailBelow ?_
  unfold vc_impl_TrailBelow
  rw [hpv]
  simp only [cellOf_agg, List.getD_cons_zero, List.getD_cons_succ]
  intro a ha1 ha2
  have k1 : Keeps σ (σ.put a ⟨t_impl_Tree, [e0, e1, e2, e3, e4], 5, (0, 0)⟩) := Keeps.put ha2
  have p1 := PT.new (ety := t_impl_Tree) (c := 5) h0 ha1 ha2
  rw [hpv']
  intro b hb1 hb2
  have k2 := Keeps.put (r := ⟨t_impl_Tree, [e0', e1', e2', e3', e4'], 5, (0, 0)⟩) hb2
  have p2 := PT.new (ety := t_impl_Tree) (c := 5) (mono_rt _ _ _ _ _ k1.le h0') hb1 hb2
  have p1' := p1.mono k2.le
  have K2 := k1.trans k2
  generalize hs : Vw.put _ b _ = s at k2 p2 p1' K2
  clear hs
  have no : ¬ ((treeOk n x = true ∧ treeOk m y = true) ∧ trailOk ms = true) → R (.int .i64 0) s := fun hno => by
    have := hR s K2
    rw [belowX, if_neg hno] at this; exact this
  refine PT.load p1' fun g hg => ?_
  refine impl_TreeOk hg hb (pNotIf.2 ⟨fun hno => no (by rw [hno]; simp), fun hok => ?_⟩)
  refine PT.load p2 fun g' hg' => ?_
  refine impl_TreeOk hg' hb' (pNotIf.2 ⟨fun hno => no (by rw [hno]; simp), fun hok' => ?_⟩)
  have hvs := hv.mono K2.le fun _ _ => mono_mk K2.le
  refine impl_TrailOk hvs (pNotIf.2 ⟨fun hno => no (by rw [hno]; simp), fun hmk => ?_⟩)
  obtain ⟨d1, x1, c1⟩ := ok_fineT hok
  obtain ⟨d2, x2, c2⟩ := ok_fineT hok'
  have hl := hv.le
  have hm6 := (trail_TrP hmk).2.1
  have P1 := PT_of d1 p1'
  have P2 := PT_of d2 p2
  rw [hvs.len]
  refine loop_rule (m := ms.length) (fun c l st => ∃ j : Nat, c + j = ms.length ∧ Keeps s st ∧
      l = [.pointer (some ⟨a, 0, none⟩), .pointer (some ⟨b, 0, none⟩), .int .i64 (belowM x y (ms.take j) : Nat), v, .int .i64 (ms.length : Nat), .int .i64 (j : Nat)]) ?_
    ⟨0, by omega, Keeps.refl _, by simp [belowM, sumBy]⟩
  rintro c l st L ⟨j, hcj, ks, rfl⟩ hL
  simp only [vget, List.getD_cons_zero, List.getD_cons_succ]
  rw [pBin_lt, pIf_d]
  refine ⟨fun hj => ?_, fun hj => ?_⟩
  · have hmj := List.getElem?_eq_getElem (show j < ms.length by omega)
    generalize ms[j]'(by omega) = mk at hmj
    have hbt := below_take (ms := ms) x1 x2 c1 c2 (j + 1)
    have hst := below_step (x := x) (y := y) hmj
    rw [hst] at hbt
    refine RSl.at (hvs.mono ks.le fun _ _ => mono_mk ks.le) hmj fun g hg => ?_
    obtain ⟨uu, hgu, ru⟩ := hg
    simp only [expl, List.cons.injEq, and_true] at hgu
    rw [hgu.1, hgu.2, pVal_2 ru.one rfl, pIf_b]
    refine ⟨fun hsub => ?_, fun hsub => ?_⟩
    · rw [if_pos hsub] at hst hbt
      refine impl_at (n := 4) (P1.mono ks.le) (short_wf _ _ x1.1) ru fun qa hqa => ?_
      refine impl_at (n := 4) (P2.mono ks.le) (short_wf _ _ x2.1) ru fun qb hqb => ?_
      refine impl_both 5 hqa hqb (at_fineO x1 mk.1) (at_fineO x2 mk.1) fun s3 k3 => ?_
      rw [pBin_add (by omega), pBin_add (by omega)]
      refine hL _ _ (c - 1) (by omega) ⟨j + 1, by omega, ks.trans k3, ?_⟩
      rw [hst]; simp
    · rw [pBin_add (by omega)]
      refine hL _ _ (c - 1) (by omega) ⟨j + 1, by omega, ks, ?_⟩
      rw [hst, if_neg (by rw [hsub]; simp)]; simp
  · have e : j = ms.length := by omega
    subst e
    show R (.int .i64 (belowM x y (ms.take ms.length) : Nat)) st
    rw [List.take_length]
    have := hR st (K2.trans ks)
    rw [belowX, if_pos ⟨⟨hok, hok'⟩, hmk⟩] at this
    exact this

end
end Go.Proofs.YtkbhjejalkbogaaGreat

/- Trails that are drawn: calls played with a trail, marks, trails. -/
set_option linter.unusedVariables false
set_option linter.unusedSimpArgs false
set_option maxRecDepth 20000
namespace Go.Proofs.YtkbhjejalkbogaaGreat
open Go Go.Av Go.RowKit

section
variable {w0 : World} {σ : Vw}

/-- A short trail. -/
def smallM (k : Nat) (ms : List Mk) : Prop := ms.length ≤ k ∧ ∀ m, m ∈ ms → m.1.length ≤ k
theorem smallM.more {k k' : Nat} {ms : List Mk} (h : smallM k ms) (hk : k ≤ k') : smallM k' ms := ⟨by have := h.1; omega, fun m hm => by have := h.2 m hm; omega⟩
theorem small_nil {k : Nat} : smallM k [] := ⟨by simp, fun m h => by cases h⟩
theorem nil_marks {rd : Addr → Option Value} {A : Option Addr} : RSl 2 RMk rd (.slice A 0 0) [] := ⟨A, 0, rfl, by simp, fun j x h => by simp at h⟩
theorem nilPath {rd : Addr → Option Value} {A : Option Addr} : RSl 1 RS rd (.slice A 0 0) [] := ⟨A, 0, rfl, by simp, fun j x h => by simp at h⟩
theorem small_of_ok {ms : List Mk} (h : trailOk ms = true) : smallM 6 ms := ⟨(trail_TrP h).2.1, fun m hm => by have := markOk_len ((trail_TrP h).2.2 m hm); omega⟩
theorem small_add {ms r : List Mk} {x : Mk} (h : AddR ms x r) : smallM 6 r := ⟨h.small.1, fun m hm => by have := h.small.2 m hm; omega⟩

/-- What a step with a trail gives. -/
abbrev OutDo (w0 : World) (σ : Vw) (R : Value → Vw → Prop) : Prop := ∀ ey y v ms (k : Int) s, Keeps σ s → RT 11 (Av.get w0 s) ey y → szT 11 y ≤ 40000000 → RSl 2 RMk (Av.get w0 s) v ms → smallM 6 ms → R (.tuple ⟨[.agg ⟨ey⟩, v, .int .i64 k]⟩) s
theorem spec_TrailDo_safe {n : Nat} {es cs : List Value} {v : Value} {x : Tr} {ms : List Mk} {c : Cl} (h : RT n (Av.get w0 σ) es x) (hs : szT n x ≤ 1000000000) (hv : RSl 2 RMk (Av.get w0 σ) v ms) (hc : RCl (Av.get w0 σ) cs c) (hdl : c.2.2.2.2.size ≤ 1000000) {R : Value → Vw → Prop} (hR : OutDo w0 σ R) :
    AC Tryz.prog w0 n_spec_TrailDo [.agg ⟨es⟩, v, .agg ⟨cs⟩] σ R := by
  have h0 := h
  have hc0 := hc
  obtain ⟨a0, a1, a2, a3, a4, rfl, hp⟩ := h.shape
  have hc5 := @RCl.five _ _ _ hc
  obtain ⟨c0, c1, c2, c3, c4, rfl⟩ := hc.shape
  refine ac_spec_TrailDo ?_
  unfold vc_spec_TrailDo
  rw [hp, hc5]
  simp only [cellOf_agg, List.getD_cons_zero, List.getD_cons_succ]
  have none1 : ∀ (s : Vw), Keeps σ s → pNew w0 t_impl_Mark [] s (fun n3 s4 => pVal true 5 (.agg (⟨[.bool false, .int .i64 0, .string ({ data := #[] }), .slice none 0 0, .slice none 0 0]⟩)) (R (.tuple (⟨[.agg (⟨[.bool false, .int .i64 0, .string ({ data := #[] }), .slice none 0 0, .slice none 0 0]⟩), .slice (some (Addr.mk n3 0 none)) 0 0, .int .i64 1]⟩)) s4)) := fun s k n1 g1 g2 => by
    refine (pVal_5 rfl rfl rfl rfl rfl).2 ?_
    exact hR _ zeroT _ [] 1 _ (k.trans (Keeps.put g2)) (RT_zero 10 _) (by rw [sz_zero]; omega) nil_marks small_nil
  refine spec_TrailOk hv (pNotIf.2 ⟨fun _ => none1 σ (Keeps.refl _), fun hok => ?_⟩)
  have hsm := small_of_ok hok
  refine spec_TreeDo h0 hs hc0 hdl fun ey y s1 k k1 hy hys hk => ?_
  have hy0 := hy
  obtain ⟨b0, b1, b2, b3, b4, rfl, hp2⟩ := hy.shape
  rw [pExtract_s rfl, pExtract_s rfl, hp2, pBin_eq, pIf_d]
  simp only [cellOf_agg, List.getD_cons_zero, List.getD_cons_succ]
  refine ⟨fun _ => none1 s1 k1, fun _ => ?_⟩
  have hv1 := hv.mono k1.le fun _ _ => mono_mk k1.le
  rw [pBin_ne, pIf_d]
  refine ⟨fun _ => ?_, fun _ => ?_⟩
  · refine spec_copyM hv1 (by have := hsm.1; omega) (fun m hm => by have := hsm.2 m hm; omega) fun v2 F2 s2 k2 o2 f2 => ?_
    rw [hp2]
    exact hR _ y v2 ms k s2 (k1.trans k2) (mono_rt _ _ _ _ _ k2.le hy0) hys (o2.osl.rel (ok_mk w0)) hsm
  · refine spec_TrailOf (mono_rt _ _ _ _ _ k1.le h0) (mono_cl k1.le hc0) (by omega) fun wv F2 s2 k2 o2 f2 => ?_
    have K2 := k1.trans k2
    refine spec_copyM (hv.mono K2.le fun _ _ => mono_mk K2.le) (by have := hsm.1; omega) (fun m hm => by have := hsm.2 m hm; omega) fun v3 F3 s3 k3 o3 f3 => ?_
    have hw3 := (o2.rel (ok_mk w0)).mono k3.le fun _ _ => mono_mk k3.le
    have hlw := hw3.le
    have hwl : (ofT n x c).length ≤ 9223372036854775807 := hlw
    refine loop_rule (m := (ofT n x c).length) (fun m l s => ∃ (j : Nat) (v' : Value) (r : List Mk), m + j = (ofT n x c).length ∧ Keeps s3 s ∧ RSl 2 RMk (Av.get w0 s) v' r ∧ smallM 6 r ∧ l = [wv, v', .int .i64 (j : Nat), .bool false, .int .i64 0, .string ⟨#[]⟩, .slice none 0 0, .slice none 0 0, b0, b1, b2, b3, b4]) ?_
      ⟨0, v3, ms, by omega, Keeps.refl _, o3.osl.rel (ok_mk w0), hsm, rfl⟩
    rintro m l s L ⟨j, v', r, hm, ks, hr, hrs, rfl⟩ hL
    simp only [vget, List.getD_cons_zero, List.getD_cons_succ]
    have hws := hw3.mono ks.le fun _ _ => mono_mk ks.le
    rw [hws.len, pBin_lt, pIf_d]
    refine ⟨fun hj => ?_, fun hj => ?_⟩
    · have hx := List.getElem?_eq_getElem (show j < (ofT n x c).length by omega)
      refine hws.at hx fun g hg => ?_
      refine spec_TrailAdd hr hg fun r' hr' v4 F4 s4 k4 o4 f4 => ?_
      rw [pBin_add (by omega)]
      exact hL _ _ (m - 1) (by omega) ⟨j + 1, v4, r', by omega, ks.trans k4, o4.rel (ok_mk w0), small_add hr', by simp⟩
    · show pVal true 5 (.agg ⟨[b0, b1, b2, b3, b4]⟩) _
      rw [hp2]
      have K3 := (k2.trans k3).trans ks
      exact hR _ y v' r 0 s (k1.trans K3) (mono_rt _ _ _ _ _ K3.le hy0) hys hr hrs

/-- What a drawn trail is. -/
abbrev OutMR (w0 : World) (σ : Vw) (b p k : Nat) (R : Value → Vw → Prop) : Prop := ∀ v ms s, RD w0 s b p → Keeps (σ.del b) (s.del b) → RSl 2 RMk (Av.get w0 (s.del b)) v ms → smallM k ms → R v s
/-- A tree and a trail. -/
abbrev OutTM (w0 : World) (σ : Vw) (b p : Nat) (R : Value → Vw → Prop) : Prop := ∀ es y v ms s, RD w0 s b p → Keeps (σ.del b) (s.del b) → RT 11 (Av.get w0 (s.del b)) es y → szT 11 y ≤ 40000000 → RSl 2 RMk (Av.get w0 (s.del b)) v ms → smallM 6 ms → R (.tuple ⟨[.agg ⟨es⟩, v]⟩) s

theorem TrailDo_rd {b p n : Nat} {es cs : List Value} {v : Value} {x : Tr} {ms : List Mk} {c : Cl} (h : RD w0 σ b p) (ht : RT n (Av.get w0 (σ.del b)) es x) (hs : szT n x ≤ 1000000000) (hv : RSl 2 RMk (Av.get w0 (σ.del b)) v ms) (hc : RCl (Av.get w0 (σ.del b)) cs c) (hdl : c.2.2.2.2.size ≤ 1000000) {R : Value → Vw → Prop}
    (hR : ∀ ey y v' ms' (k : Int) s, Keeps (σ.del b) (s.del b) → RD w0 s b p → RT 11 (Av.get w0 (s.del b)) ey y → szT 11 y ≤ 40000000 → RSl 2 RMk (Av.get w0 (s.del b)) v' ms' → smallM 6 ms' → R (.tuple ⟨[.agg ⟨ey⟩, v', .int .i64 k]⟩) s) : AC Tryz.prog w0 n_spec_TrailDo [.agg ⟨es⟩, v, .agg ⟨cs⟩] σ R :=
  h.hide (R := fun w s => Keeps (σ.del b) s ∧ ∃ ey y v' ms' k, w = .tuple ⟨[.agg ⟨ey⟩, v', .int .i64 k]⟩ ∧ RT 11 (Av.get w0 s) ey y ∧ szT 11 y ≤ 40000000 ∧ RSl 2 RMk (Av.get w0 s) v' ms' ∧ smallM 6 ms')
    (spec_TrailDo_safe ht hs hv hc hdl fun ey y v' ms' k s k1 r1 r2 r3 r4 => ⟨k1, ey, y, v', ms', k, rfl, r1, r2, r3, r4⟩)
    (fun w s k hrd ⟨_, ey, y, v', ms', c, e, r1, r2, r3, r4⟩ => by subst e; exact hR ey y v' ms' c s k hrd r1 r2 r3 r4) fun v s h => h.1
theorem TrailAdd_rd {b p : Nat} {es : List Value} {v : Value} {ms : List Mk} {x : Mk} (h : RD w0 σ b p) (hv : RSl 2 RMk (Av.get w0 (σ.del b)) v ms) (hx : RMk (Av.get w0 (σ.del b)) es x) {R : Value → Vw → Prop} (hR : OutMR w0 σ b p 6 R) : AC Tryz.prog w0 n_spec_TrailAdd [v, .agg ⟨es⟩] σ R :=
  h.hide (R := fun w s => Keeps (σ.del b) s ∧ ∃ ms', RSl 2 RMk (Av.get w0 s) w ms' ∧ smallM 6 ms')
    (spec_TrailAdd hv hx fun r hr w F s k o f => ⟨k, r, o.rel (ok_mk w0), small_add hr⟩)
    (fun w s k hrd ⟨_, r, r1, r2⟩ => hR w r s hrd k r1 r2) fun v s h => h.1

theorem spec_l13Play {b p k : Nat} {es : List Value} {x : Tr} (h : RD w0 σ b p) (hp : p + 60 * k ≤ 900000) (hk : k ≤ 100) (ht : RT 11 (Av.get w0 (σ.del b)) es x) (hs : szT 11 x ≤ 40000000) {R : Value → Vw → Prop} (hR : OutTM w0 σ b (p + 60 * k) R) : AC Tryz.prog w0 n_spec_l13Play [ptr b, .agg ⟨es⟩, .int .i64 (k : Nat)] σ R := by
  have ht0 := ht
  obtain ⟨c0, c1, c2, c3, c4, rfl, hp5⟩ := ht.shape
  refine ac_spec_l13Play ?_
  unfold vc_spec_l13Play
  rw [hp5]
  simp only [cellOf_agg, List.getD_cons_zero, List.getD_cons_succ]
  rw [hp5]
  intro n1 g1 g2
  obtain ⟨hne, hrd0, kk⟩ := h.new (r := ⟨t_impl_Mark, [], 0, (0, 0)⟩) g2
  refine loop_rule (m := k) (fun m l s => ∃ (i q : Nat) (v : Value) (ms : List Mk) (d0 d1 d2 d3 d4 : Value) (y : Tr), m = i ∧ i ≤ k ∧ q + 60 * i ≤ p + 60 * k ∧ RD w0 s b q ∧ Keeps (σ.del b) (s.del b) ∧ RT 11 (Av.get w0 (s.del b)) [d0, d1, d2, d3, d4] y ∧ szT 11 y ≤ 40000000 ∧ RSl 2 RMk (Av.get w0 (s.del b)) v ms ∧ smallM 6 ms ∧
      l = [ptr b, .int .i64 (i : Nat), v, .bool false, .int .i64 0, .string ⟨#[]⟩, .slice none 0 0, .slice none 0 0, d0, d1, d2, d3, d4]) ?_
    ⟨k, p, _, [], c0, c1, c2, c3, c4, x, rfl, Nat.le_refl _, Nat.le_refl _, hrd0, kk, mono_rt _ _ _ _ _ kk.le ht0, hs, nil_marks, small_nil, rfl⟩
  rintro m l s L ⟨i, q, v, ms, d0, d1, d2, d3, d4, y, rfl, hi, hq, hrd, ks, hy, hys, hv, hvs, rfl⟩ hL
  simp only [vget, List.getD_cons_zero, List.getD_cons_succ]
  have hy0 := hy
  have hp6 : ∀ A : Prop, pVal true 5 (.agg ⟨[d0, d1, d2, d3, d4]⟩) A ↔ A := by
    obtain ⟨_, _, _, _, _, e, hh⟩ := hy.shape
    cases e; exact hh
  rw [pBin_gt, pIf_d]
  refine ⟨fun hpos => ?_, fun _ => ?_⟩
  · refine spec_l4Call hrd (by omega) hy0 (by omega) fun cs c s1 hrd1 k1 hc hcs => ?_
    refine TrailDo_rd hrd1 (mono_rt _ _ _ _ _ k1.le hy0) (by omega) (hv.mono k1.le fun _ _ => mono_mk k1.le) hc (by omega) fun ey z v' ms' cd s2 k2 hrd2 hz hzs hv' hvs' => ?_
    have hz0 := hz
    obtain ⟨f0, f1, f2, f3, f4, rfl, hp7⟩ := hz.shape
    rw [pExtract_s rfl, pExtract_s rfl, pExtract_s rfl, hp7, pBin_eq, pIf_d]
    simp only [cellOf_agg, List.getD_cons_zero, List.getD_cons_succ]
    have K2 := k1.trans k2
    refine ⟨fun _ => ?_, fun _ => ?_⟩
    · rw [hp7, pBin_sub (by omega)]
      exact hL _ _ (m - 1) (by omega) ⟨m - 1, q + 60, v', ms', f0, f1, f2, f3, f4, z, rfl, by omega, by omega, hrd2, ks.trans K2, hz0, hzs, hv', hvs', by rw [show ((m : Nat) : Int) - 1 = ((m - 1 : Nat) : Int) by omega]⟩
    · rw [pBin_sub (by omega)]
      exact hL _ _ (m - 1) (by omega) ⟨m - 1, q + 60, v, ms, d0, d1, d2, d3, d4, y, rfl, by omega, by omega, hrd2, ks.trans K2, mono_rt _ _ _ _ _ K2.le hy0, hys, hv.mono K2.le fun _ _ => mono_mk K2.le, hvs, by rw [show ((m : Nat) : Int) - 1 = ((m - 1 : Nat) : Int) by omega]⟩
  · show pVal true 5 (.agg ⟨[d0, d1, d2, d3, d4]⟩) _
    rw [hp6]
    exact hR _ y v ms s (hrd.more (by omega)) ks hy0 hys hv hvs

theorem spec_l13Mark {b p n : Nat} {es : List Value} {x : Tr} (h : RD w0 σ b p) (hp : p ≤ 900000) (ht : RT n (Av.get w0 (σ.del b)) es x) (hs : szT n x ≤ 1000000000) {R : Value → Vw → Prop} (hR : ∀ cs (m : Mk) s, RD w0 s b (p + 30) → Keeps (σ.del b) (s.del b) → RMk (Av.get w0 (s.del b)) cs m → m.1.length ≤ 4 → R (.agg ⟨cs⟩) s) : AC Tryz.prog w0 n_spec_l13Mark [ptr b, .agg ⟨es⟩] σ R := by
  have ht0 := ht
  obtain ⟨c0, c1, c2, c3, c4, rfl, hp5⟩ := ht.shape
  refine ac_spec_l13Mark ?_
  unfold vc_spec_l13Mark
  rw [hp5]
  simp only [cellOf_agg, List.getD_cons_zero, List.getD_cons_succ]
  refine spec_l4Path h (by omega) ht0 hs fun pv ps s1 hrd1 k1 hv hpl => ?_
  refine spec_pick (n := 4) hrd1 (by omega) (by omega) fun j s2 hj hrd2 hd2 _ => ?_
  have k2 : Keeps (s1.del b) (s2.del b) := by rw [hd2]; exact Keeps.refl _
  rw [pBin_eq, pVal1 hv.one, pVal1 rfl, pVal_2 hv.one rfl]
  refine spec_pick (n := 20) hrd2 (by omega) (by omega) fun j2 s3 hj2 hrd3 hd3 _ => ?_
  have k3 : Keeps (s2.del b) (s3.del b) := by rw [hd3]; exact Keeps.refl _
  have K3 := (k1.trans k2).trans k3
  rw [pBin_eq, pIf_d]
  refine ⟨fun _ => ?_, fun _ => ?_⟩
  · intro n1 g1 g2
    obtain ⟨hne, hrd4, kk⟩ := hrd3.new (r := ⟨t_string, [], 0, (0, 0)⟩) g2
    rw [pVal1 rfl, pVal_2 rfl rfl]
    exact hR _ ([], _) _ (hrd4.more (by omega)) (K3.trans kk) ⟨_, rfl, nilPath⟩ (by simp)
  rw [pBin_eq, pIf_d]
  refine ⟨fun _ => ?_, fun _ => ?_⟩
  · rw [pVal1 rfl, pVal1 rfl, pVal1 rfl]
    have hsz : ∀ x, x ∈ [(⟨#[]⟩ : ByteArray), ⟨#[65]⟩, ⟨#[97]⟩] → x.size ≤ 7 := by
      intro x hx
      simp at hx
      rcases hx with rfl | rfl | rfl <;> decide
    refine of_lit (xs := [(⟨#[]⟩ : ByteArray), ⟨#[65]⟩, ⟨#[97]⟩]) hrd3 (by omega) (by simp) (fun x hx => by have := hsz x hx; omega) rfl rfl fun x s4 hx hrd4 k4 => ?_
    have hxs := hsz x hx
    rw [pVal1 rfl]
    intro n1 g1 g2
    obtain ⟨hne, hrd5, kk⟩ := hrd4.new (r := ⟨t_string, [.string x], 1, (0, 0)⟩) g2
    rw [pVal1 rfl, pVal_2 rfl rfl]
    have hrow := row_strs (xs := [x]) (k := 1) (s := (s4.put n1 ⟨t_string, [.string x], 1, (0, 0)⟩).del b) g1 (by rw [del_ne hne]; exact put_at) (fun y hy => by rw [List.mem_singleton.1 hy]; omega) (by simp)
    exact hR _ ([x], _) _ (hrd5.more (by omega)) ((K3.trans k4).trans kk) ⟨_, rfl, hrow⟩ (by simp)
  · have hv3 := hv.mono (k2.trans k3).le fun _ _ h => h
    rw [pVal_2 hv.one rfl]
    exact hR _ (ps, _) s3 (hrd3.more (by omega)) K3 ⟨pv, rfl, hv3⟩ hpl.2

theorem spec_l13Trail {b p n : Nat} {es : List Value} {x : Tr} (h : RD w0 σ b p) (hp : p ≤ 800000) (ht : RT n (Av.get w0 (σ.del b)) es x) (hs : szT n x ≤ 1000000000) {R : Value → Vw → Prop} (hR : OutMR w0 σ b (p + 300) 6 R) : AC Tryz.prog w0 n_spec_l13Trail [ptr b, .agg ⟨es⟩] σ R := by
  have ht0 := ht
  obtain ⟨c0, c1, c2, c3, c4, rfl, hp5⟩ := ht.shape
  refine ac_spec_l13Trail ?_
  unfold vc_spec_l13Trail
  rw [hp5]
  simp only [cellOf_agg, List.getD_cons_zero, List.getD_cons_succ]
  intro n1 g1 g2
  obtain ⟨hne, hrd0, kk⟩ := h.new (r := ⟨t_impl_Mark, [], 0, (0, 0)⟩) g2
  refine spec_pick (n := 9) hrd0 (by omega) (by omega) fun k s1 hk hrd1 hd1 _ => ?_
  have k1 : Keeps ((σ.put n1 ⟨t_impl_Mark, [], 0, (0, 0)⟩).del b) (s1.del b) := by rw [hd1]; exact Keeps.refl _
  refine loop_rule (m := k) (fun m l s => ∃ (i q : Nat) (v : Value) (ms : List Mk), m = i ∧ i ≤ k ∧ q + 30 * i ≤ p + 1 + 30 * k ∧ RD w0 s b q ∧ Keeps (σ.del b) (s.del b) ∧ RSl 2 RMk (Av.get w0 (s.del b)) v ms ∧ smallM 6 ms ∧
      l = [ptr b, v, .int .i64 (i : Nat), c0, c1, c2, c3, c4]) ?_
    ⟨k, p + 1, _, [], rfl, Nat.le_refl _, Nat.le_refl _, hrd1, kk.trans k1, nil_marks, small_nil, rfl⟩
  rintro m l s L ⟨i, q, v, ms, rfl, hi, hq, hrd, ks, hv, hvs, rfl⟩ hL
  simp only [vget, List.getD_cons_zero, List.getD_cons_succ]
  rw [pBin_gt, pIf_d]
  refine ⟨fun hpos => ?_, fun _ => ?_⟩
  · refine spec_l13Mark hrd (by omega) (mono_rt _ _ _ _ _ ks.le ht0) hs fun cs mk s2 hrd2 k2 hmk hml => ?_
    refine TrailAdd_rd hrd2 (hv.mono k2.le fun _ _ => mono_mk k2.le) hmk fun v' ms' s3 hrd3 k3 hv' hvs' => ?_
    rw [pBin_sub (by omega)]
    exact hL _ _ (m - 1) (by omega) ⟨m - 1, q + 30, v', ms', rfl, by omega, by omega, hrd3, (ks.trans k2).trans k3, hv', hvs', by rw [show ((m : Nat) : Int) - 1 = ((m - 1 : Nat) : Int) by omega]⟩
  · exact hR v ms s (hrd.more (by omega)) ks hv hvs
end
end Go.Proofs.YtkbhjejalkbogaaGreat

/- Trails that are drawn and spoilt; what the laws on trails draw. -/
set_option linter.unusedVariables false
set_option linter.unusedSimpArgs false
set_option maxRecDepth 20000
namespace Go.Proofs.YtkbhjejalkbogaaGreat
open Go Go.Av Go.RowKit

section
variable {w0 : World} {σ : Vw}

/-- A mark whose path may grow. -/
def OMkA (w0 : World) (σ : Vw) (F : List Nat) (es : List Value) (m : Mk) : Prop := ∃ v, es = [v, .bool m.2] ∧ OAcc w0 t_string 1 OStr σ F v m.1
theorem OMkA.weak {F : List Nat} {es : List Value} {m : Mk} (h : OMkA w0 σ F es m) : OMk w0 σ F es m := by
  obtain ⟨v, e, o⟩ := h; exact ⟨v, e, o.osl⟩
theorem ok_mkA (w0 : World) : OOk w0 2 RMk (OMkA w0) := by
  refine ⟨?_, ?_, ?_, ?_, ?_, ?_⟩
  · rintro σ F es x h; exact (ok_mk w0).rel _ _ _ _ h.weak
  · rintro σ σ' F es x ⟨v, e, o⟩ hF; exact ⟨v, e, o.frame (ok_str w0) hF⟩
  · rintro σ F es x h; exact (ok_mk w0).dom _ _ _ _ h.weak
  · rintro σ F es x h; exact (ok_mk w0).nodup _ _ _ _ h.weak
  · rintro σ F es x h; exact (ok_mk w0).len _ _ _ _ h.weak
  · rintro σ F es x h; exact (ok_mk w0).one _ _ _ _ h.weak

theorem spec_copyMA {v : Value} {ms : List Mk} (h : RSl 2 RMk (Av.get w0 σ) v ms) (hl : ms.length ≤ 1000000) (hp : ∀ m, m ∈ ms → m.1.length ≤ 1000000) {R : Value → Vw → Prop}
    (hR : ∀ v' F σ', Keeps σ σ' → OAcc w0 t_impl_Mark 2 (OMkA w0) σ' F v' ms → (∀ b, b ∈ F → σ b = none) → R v' σ') : AC Tryz.prog w0 n_spec_l11Copy [v] σ R := by
  refine ac_spec_l11Copy ?_
  unfold vc_spec_l11Copy
  intro b h1 h2
  have kb : Keeps σ (σ.put b ⟨t_impl_Mark, [], 0, (0, 0)⟩) := Keeps.put h2
  have hb0 : ∀ i, i ∈ [b] → σ i = none := fun i hi => by rw [List.mem_singleton.1 hi]; exact h2
  refine loop_rule (m := ms.length) (fun m l s => ∃ (j : Nat) (v' : Value) (F : List Nat), m + j = ms.length ∧ Keeps σ s ∧ OAcc w0 t_impl_Mark 2 (OMkA w0) s F v' (ms.take j) ∧ (∀ i, i ∈ F → σ i = none) ∧ l = [v, v', .int .i64 (j : Nat)]) ?_
    ⟨0, _, [b], by omega, kb, OAcc.new h1, hb0, rfl⟩
  rintro m l s L ⟨j, v', F, hm, ks, ho, hF, rfl⟩ hL
  simp only [vget, List.getD_cons_zero, List.getD_cons_succ]
  have h' := h.mono ks.le fun es x => mono_mk ks.le
  rw [h'.len, pBin_lt, pIf_d]
  refine ⟨fun hi => ?_, fun hi => ?_⟩
  · have hx := List.getElem?_eq_getElem (show j < ms.length by omega)
    generalize hxi : ms[j]'(by omega) = y at hx
    have hyl := hp y (List.mem_of_getElem? hx)
    refine h'.atfp hx 0 (by omega) fun q0 es g hg0 hg => ?_
    obtain ⟨u, rfl, hu⟩ := hg0
    simp only [List.getElem?_cons_zero, List.getElem?_cons_succ, Option.some.injEq] at hg
    refine h'.atfp hx 1 (by omega) fun q1 es g' hg1 hg' => ?_
    obtain ⟨u', rfl, hu'⟩ := hg1
    simp only [List.getElem?_cons_zero, List.getElem?_cons_succ, Option.some.injEq] at hg'
    rw [← hg, ← hg']
    intro c h3 h4
    have kc : Keeps s (s.put c ⟨t_string, [], 0, (0, 0)⟩) := Keeps.put h4
    have hc0 : ∀ i, i ∈ [c] → s i = none := fun i hi => by rw [List.mem_singleton.1 hi]; exact h4
    refine ⟨kc.stay, kc.stay, ?_⟩
    refine (OAcc.new (w0 := w0) (σ := s) (ety := t_string) (n := 1) (O := OStr) h3).allX (ok_str w0) hu kc.le (fun es y hy => ⟨rfl, hy⟩) (by simp; omega) (by omega) fun u2 F1 s1 hext k1 o1 g1 => ⟨fun a g _ hc j hj => Ext.le hext _ _ (hc j hj), ?_⟩
    rw [List.nil_append] at o1
    have K1 := k1.old kc hc0
    have hF1 := fresh_in kc hc0 g1
    rw [pVal1 (OSl.one' o1.osl), pVal1 rfl, pVal_2 (OSl.one' o1.osl) rfl]
    have ho1 := ho.frame (ok_mkA w0) (K1.but_at fun b hb => (ho.dom (ok_mkA w0) b hb).2)
    refine ho1.one (ok_mkA w0) (f := F1) (y := y) ⟨u2, rfl, o1⟩ (fun i hi hi' => (ho.dom (ok_mkA w0) i hi').2 (hF1 i hi)) (by rw [List.length_take]; omega) (by omega) fun v4 F4 s4 k4 o4 g4 => ?_
    rw [pBin_add (by omega)]
    have KS := ks.trans K1
    refine hL _ _ (m - 1) (by omega) ⟨j + 1, v4, F4, by omega, k4.old KS hF, ?_, fun i hi => ?_, by simp⟩
    · rw [List.take_add_one, hx]; exact o4
    · rcases g4 i hi with h | h | h
      · exact hF i h
      · exact none_at ks (hF1 i h)
      · exact none_at KS h
  · have e : j = ms.length := by omega
    subst e
    rw [List.take_length] at ho
    exact hR v' F s ks ho hF

theorem stay_at {s s' : Vw} {b o n : Nat} (h : s' b = s b) : Stay w0 s s' (.pointer (some ⟨b, o, none⟩)) n := fun a g e hc j hj => by
  cases e
  have := hc j hj
  rw [addr_add] at this ⊢
  have e2 : Av.get w0 s' ⟨b, o + j, none⟩ = Av.get w0 s ⟨b, o + j, none⟩ := by simp [Av.get, h]
  rw [e2]; exact this

theorem field_ldp {b o off : Nat} {r : Row} {A c C : List Value} {y : Value} {K : Value → (Nat → Value) → Prop} (hb : w0.heap.size ≤ b) (hr : σ b = some r) (hc : r.cells = A ++ (c ++ C)) (hA : A.length = o) (hoff : c[off]? = some y)
    (hK : ∀ g : Nat → Value, g 0 = y → K (.pointer (some ⟨b, o + off, none⟩)) g) : pField off (.pointer (some ⟨b, o, none⟩)) fun q => pLoad w0 1 q σ (K q) := by
  rw [pField_s, addr_add]
  refine ⟨_, fun _ => y, rfl, fun j hj => ?_, hK _ rfl⟩
  have e : j = 0 := by omega
  subst e
  rw [addr_add, get_row hb hr, Nat.add_zero, hc, ← hA, List.getElem?_append_right (by omega), Nat.add_sub_cancel_left, List.getElem?_append_left (List.getElem?_eq_some_iff.1 hoff).1]
  exact hoff

/-- A mark in a list of our own: where it lies, and what the list is once it is written. -/
theorem mark_at {F : List Nat} {v : Value} {ms : List Mk} {k : Nat} {m : Mk} (h : OAcc w0 t_impl_Mark 2 (OMkA w0) σ F v ms) (hk : ms[k]? = some m) :
    ∃ (bl o : Nat) (f : List Nat) (u : Value) (r : Row) (A C : List Value), (∀ K : Value → Prop, K (.pointer (some ⟨bl, o, none⟩)) → pIndexAddr 2 v (.int .i64 (k : Nat)) K) ∧ w0.heap.size ≤ bl ∧ σ bl = some r ∧ r.cells = A ++ ([u, .bool m.2] ++ C) ∧ A.length = o ∧ OAcc w0 t_string 1 OStr σ f u m.1 ∧ bl ∈ F ∧ (∀ i, i ∈ f → i ∈ F ∧ i ≠ bl) ∧
      ∀ (σ' : Vw) (u' : Value) (d' : Bool) (p' : List ByteArray) (r' : Row), σ' bl = some r' → r'.cells = A ++ ([u', .bool d'] ++ C) → RSl 1 RS (Av.get w0 σ') u' p' → (∀ i, i ∈ F → i ≠ bl → i ∉ f → σ' i = σ i) → RSl 2 RMk (Av.get w0 σ') v (ms.set k (p', d')) := by
  obtain ⟨h1, h2, ⟨rfl, rfl, rfl⟩ | ⟨bl, cap, css, Fs, rfl, g2, g3, g4, g5, g6, rfl, g8⟩⟩ := h
  · simp at hk
  have hlt : k < ms.length := (List.getElem?_eq_some_iff.1 hk).1
  have hc := List.getElem?_eq_getElem (show k < css.length by omega)
  have hf := List.getElem?_eq_getElem (show k < Fs.length by omega)
  generalize css[k]'(by omega) = c at hc
  generalize Fs[k]'(by omega) = f at hf
  obtain ⟨u, rfl, ho⟩ := g8 k c m f hc hk hf
  have hnd := List.nodup_cons.1 h2
  have hcl : ∀ c, c ∈ css → c.length = 2 := fun c hc' => by
    obtain ⟨j, hj⟩ := List.getElem?_of_mem hc'
    have hjl := (List.getElem?_eq_some_iff.1 hj).1
    have := g8 j c _ _ hj (List.getElem?_eq_getElem (show j < ms.length by omega)) (List.getElem?_eq_getElem (show j < Fs.length by omega))
    obtain ⟨_, e, _⟩ := this
    rw [e]; rfl
  have hA : (css.take k).flatten.length = k * 2 := by
    rw [flat_len (n := 2) _ fun c hc' => hcl c (List.mem_of_mem_take hc'), List.length_take]
    congr 1; omega
  have hfF : ∀ i, i ∈ f → i ∈ Fs.flatten := fun i hi => List.mem_flatten.2 ⟨f, List.mem_of_getElem? hf, hi⟩
  refine ⟨bl, k * 2, f, u, _, (css.take k).flatten, (css.drop (k + 1)).flatten, fun K hK => ?_, g3, g4, split_at hc, hA, ho, List.mem_cons_self, fun i hi => ⟨List.mem_cons_of_mem _ (hfF i hi), fun e => hnd.1 (e ▸ hfF i hi)⟩, fun σ' u' d' p' r' hr' hcells hu' hfr => ?_⟩
  · refine ⟨⟨bl, 0, none⟩, ms.length, cap, .i64, (k : Nat), rfl, rfl, by omega, by omega, ?_⟩
    rw [addr_add, Int.toNat_natCast, Nat.zero_add]; exact hK
  · have hl : (ms.set k (p', d')).length = ms.length := List.length_set
    rw [← hl]
    refine RSl.own (cs := css.set k [u', .bool d']) (tail := []) g3 hr' ?_ (fun c hc' => ?_) (by rw [List.length_set, hl]; exact g5) (by rw [hl]; exact g2) fun j c x hj hx => ?_
    · rw [hcells, List.append_nil, split_at (l := css.set k [u', .bool d']) (j := k) (c := [u', .bool d']) (by rw [List.getElem?_set_self (by omega)]), List.take_set_of_le (Nat.le_refl _), List.drop_set_of_lt (by omega)]
    · rcases List.mem_or_eq_of_mem_set hc' with e | e
      · exact hcl c e
      · rw [e]; rfl
    · by_cases e : k = j
      · subst e
        rw [List.getElem?_set_self (by omega)] at hj hx
        cases hj; cases hx
        exact ⟨u', rfl, hu'⟩
      · rw [List.getElem?_set_ne e] at hj hx
        have hjl := (List.getElem?_eq_some_iff.1 hx).1
        have hfj := List.getElem?_eq_getElem (show j < Fs.length by omega)
        have hO := g8 j c x _ hj hx hfj
        have hmem : ∀ i, i ∈ Fs[j]'(by omega) → i ∈ Fs.flatten := fun i hi => List.mem_flatten.2 ⟨_, List.getElem_mem (by omega), hi⟩
        exact (ok_mkA w0).rel _ _ _ _ ((ok_mkA w0).frame _ σ' _ _ _ hO fun i hi => hfr i (List.mem_cons_of_mem _ (hmem i hi)) (fun e2 => hnd.1 (e2 ▸ hmem i hi)) (nodup_at hnd.2 hfj hf (fun e3 => e e3.symm) i hi))

/-- Marks in rows of our own, beside a reader. -/
def SM (w0 : World) (σ : Vw) (b q : Nat) (s : Vw) (v : Value) (ms : List Mk) : Prop := ∃ F, RD w0 s b q ∧ Keeps (σ.del b) (s.del b) ∧ (∀ i, i ∈ F → (σ.del b) i = none ∧ i ≠ b) ∧ OAcc w0 t_impl_Mark 2 (OMkA w0) s F v ms
theorem SM.next {b q q' : Nat} {s s' : Vw} {v : Value} {ms : List Mk} (h : SM w0 σ b q s v ms) (hrd : RD w0 s' b q') (k : Keeps (s.del b) (s'.del b)) : SM w0 σ b q' s' v ms := by
  obtain ⟨F, h1, h2, h3, h4⟩ := h
  refine ⟨F, hrd, h2.trans k, h3, h4.frame (ok_mkA w0) fun i hi => ?_⟩
  cases hs : s i with
  | none => exact absurd hs (h4.dom (ok_mkA w0) i hi).2
  | some r => exact keeps_out k (h3 i hi).2 hs
theorem SM.rd {b q : Nat} {s : Vw} {v : Value} {ms : List Mk} (h : SM w0 σ b q s v ms) : RD w0 s b q := by obtain ⟨F, h1, _⟩ := h; exact h1
theorem SM.read {b q : Nat} {s : Vw} {v : Value} {ms : List Mk} (h : SM w0 σ b q s v ms) : RSl 2 RMk (Av.get w0 (s.del b)) v ms := by
  obtain ⟨F, h1, h2, h3, h4⟩ := h
  exact (OAcc.osl (OAcc.frame (σ' := s.del b) (ok_mkA w0) h4 fun i hi => del_ne (h3 i hi).2)).rel (ok_mkA w0)
theorem SM.keeps {b q : Nat} {s : Vw} {v : Value} {ms : List Mk} (h : SM w0 σ b q s v ms) : Keeps (σ.del b) (s.del b) := by obtain ⟨F, h1, h2, _⟩ := h; exact h2

/-- Marks are added until there are too many. -/
def VMF (w0 : World) (a0 v0 : Value) (s1 : Vw) (R : Value → Vw → Prop) : Prop :=
  pLoop (fun l4 K5 s6 => pLen (vget l4 1) (fun v7 => AC Tryz.prog w0 n_p_spec_l1Rd_pick [vget l4 0, .int .i64 2] s6 (fun v8 s9 => pBin Tryz.prog 3 .add (.int .i64 6) v8 (fun v10 => pBin Tryz.prog 3 .lss v7 v10 (fun v11 => pIf v11 (pBin Tryz.prog 3 .add (.int .i64 100) (vget l4 2) (fun v12 => AC Tryz.prog w0 n_spec_l1Dec [v12] s9 (fun v13 s14 => pBin Tryz.prog t_string .add (.string ({ data := #[122] })) v13 (fun v15 => pVal false 1 v15 (pNew w0 t_string [v15] s14 (fun n16 s17 => pVal false 1 (.slice (some (Addr.mk n16 0 none)) 1 1) (pVal true 2 (.agg (⟨[.slice (some (Addr.mk n16 0 none)) 1 1, .bool false]⟩)) ((allOne [.slice (some (Addr.mk n16 0 none)) 1 1, .bool false]) ∧ (pAppend w0 t_impl_Mark 2 32 (vget l4 1) 1 [.slice (some (Addr.mk n16 0 none)) 1 1, .bool false] s17 (fun v18 s19 => pBin Tryz.prog 3 .add (vget l4 2) (.int .i64 1) (fun v20 => K5 AX.normal [vget l4 0, v18, v20] s19))))))))))) (K5 (AX.exit 0) [vget l4 0, vget l4 1, vget l4 2] s9)))))) [a0, v0, .int .i64 0] s1 (fun x21 l22 s23 => match x21 with | .normal => R (vget l22 1) s23 | .ret => False | .exit i24 => (match Nat.beq i24 0 with | true => R (vget l22 1) s23 | false => False))
theorem marks_fill {b q : Nat} {s : Vw} {v : Value} {ms : List Mk} (h : SM w0 σ b q s v ms) (hq : q ≤ 900000) (hs : smallM 6 ms) {R : Value → Vw → Prop} (hR : OutMR w0 σ b (q + 10) 8 R) : VMF w0 (ptr b) v s R := by
  unfold VMF
  refine loop_rule (m := 7) (fun m l st => ∃ (i q' : Nat) (v' : Value) (ms' : List Mk), m + i = 7 ∧ q' ≤ q + i ∧ i ≤ ms'.length ∧ SM w0 σ b q' st v' ms' ∧ smallM 7 ms' ∧ l = [ptr b, v', .int .i64 (i : Nat)]) ?_
    ⟨0, q, v, ms, rfl, by omega, by omega, h, hs.more (by omega), rfl⟩
  rintro m l st L ⟨i, q', v', ms', hm, hq', hil, hsm, hss, rfl⟩ hL
  simp only [vget, List.getD_cons_zero, List.getD_cons_succ]
  rw [hsm.read.len]
  refine spec_pick (n := 2) hsm.rd (by omega) (by omega) fun j s1 hj hrd1 hd1 _ => ?_
  have k1 : Keeps (st.del b) (s1.del b) := by rw [hd1]; exact Keeps.refl _
  have h1 := hsm.next hrd1 k1
  have hl7 := hss.1
  rw [pBin_add (by omega), pBin_lt, pIf_d]
  refine ⟨fun hlt => ?_, fun _ => ?_⟩
  · rw [pBin_add (by omega), show (100 : Int) + (i : Nat) = ((100 + i : Nat) : Int) by omega]
    refine spec_l1Dec (by omega) fun s2 k2 => ?_
    have h2 := h1.next (h1.rd.kept k2) (keeps_del k2)
    have hz10 := decZ_nat (100 + i)
    have hszd := (decN_size (100 + i)).2
    have e1 : (⟨#[122]⟩ : ByteArray).size = 1 := rfl
    rw [pBin_cat (by rw [hz10, e1]; omega), pVal1 rfl]
    have hnsz : ((⟨#[122]⟩ : ByteArray) ++ decZ ((100 + i : Nat) : Int)).size ≤ 1000000 := by rw [ByteArray.size_append, hz10, e1]; omega
    generalize (⟨#[122]⟩ : ByteArray) ++ decZ ((100 + i : Nat) : Int) = nm at hnsz
    intro n1 g1 g2
    obtain ⟨hne, hrd3, k3⟩ := h2.rd.new (r := ⟨t_string, [.string nm], 1, (0, 0)⟩) g2
    have kput : Keeps s2 (s2.put n1 ⟨t_string, [.string nm], 1, (0, 0)⟩) := Keeps.put g2
    have op := OAcc.single (w0 := w0) (σ := s2) (ok_str w0) (ety := t_string) (n := 1) (es := [.string nm]) (f := []) (y := nm) g1 g2 ⟨rfl, rfl, by omega⟩
    rw [pVal1 rfl, pVal_2 rfl rfl]
    obtain ⟨F, q1, q2, q3, q4⟩ := h2
    have q4' := q4.frame (ok_mkA w0) (kput.but_at fun i hi => (q4.dom (ok_mkA w0) i hi).2)
    refine q4'.one (ok_mkA w0) (f := [n1]) (y := ([nm], false)) ⟨_, rfl, op⟩ (fun i hi hi' => (q4.dom (ok_mkA w0) i hi').2 (by rw [List.mem_singleton.1 hi]; exact g2)) (by omega) (by omega) fun v4 F4 s4 k4 o4 f4 => ?_
    rw [pBin_add (by omega)]
    have hbF : b ∉ F := fun hb => (q3 b hb).2 rfl
    have hsb : s4 b = (s2.put n1 ⟨t_string, [.string nm], 1, (0, 0)⟩ : Vw) b := by
      cases hb : (s2.put n1 ⟨t_string, [.string nm], 1, (0, 0)⟩ : Vw) b with
      | none => exact absurd hb hrd3.at
      | some r => exact k4 b r hb hbF
    have K3 := q2.trans k3
    have K4 : Keeps (σ.del b) (s4.del b) := fun i r hi => by
      obtain ⟨e1', e2'⟩ := del_some hi
      have e3' := K3 i r hi
      rw [del_ne e1'] at e3' ⊢
      exact k4 i r e3' fun hf => by rw [(q3 i hf).1] at hi; cases hi
    have hn1 : (σ.del b) n1 = none ∧ n1 ≠ b := by
      refine ⟨?_, hne⟩
      rw [del_ne hne]; exact none_out q2 hne g2
    refine hL _ _ (m - 1) (by omega) ⟨i + 1, q' + 1, v4, ms' ++ [([nm], false)], by omega, by omega, by rw [List.length_append]; simp only [List.length_singleton]; omega, ⟨F4, hrd3.keep hsb, K4, fun z hz => ?_, o4⟩, ⟨by rw [List.length_append]; simp only [List.length_singleton]; omega, fun mm hmm => ?_⟩, by simp⟩
    · rcases f4 z hz with e | e | e
      · exact q3 z e
      · rw [List.mem_singleton.1 e]; exact hn1
      · have hzb : z ≠ b := fun e' => hrd3.at (e' ▸ e)
        refine ⟨?_, hzb⟩
        rw [del_ne hzb]; exact none_out K3 hzb e
    · rcases List.mem_append.1 hmm with e | e
      · exact hss.2 mm e
      · rw [List.mem_singleton.1 e]; simp
  · exact hR v' ms' s1 (hrd1.more (by omega)) h1.keeps h1.read (hss.more (by omega))
set_option maxHeartbeats 4000000 in
theorem spec_l13Spoil {b p : Nat} {v : Value} {ms : List Mk} (h : RD w0 σ b p) (hp : p ≤ 800000) (hv : RSl 2 RMk (Av.get w0 (σ.del b)) v ms) (hs : smallM 6 ms) {R : Value → Vw → Prop} (hR : OutMR w0 σ b (p + 20) 8 R) : AC Tryz.prog w0 n_spec_l13Spoil [ptr b, v] σ R := by
  refine ac_spec_l13Spoil ?_
  unfold vc_spec_l13Spoil cs_spec_l13Spoil_1
  refine h.hide (R := fun w s => Keeps (σ.del b) s ∧ ∃ F, OAcc w0 t_impl_Mark 2 (OMkA w0) s F w ms ∧ ∀ i, i ∈ F → (σ.del b) i = none)
    (spec_copyMA hv (by have := hs.1; omega) (fun m hm => by have := hs.2 m hm; omega) fun w F s k o f => ⟨k, F, o, f⟩) (fun w s k hrd ⟨_, F, o, f⟩ => ?_) fun w s h => h.1
  have hFb : ∀ i, i ∈ F → i ≠ b := fun i hi e => (o.dom (ok_mkA w0) i hi).2 (by rw [e]; exact del_at)
  have hsm : SM w0 σ b p s w ms := ⟨F, hrd, k, fun i hi => ⟨f i hi, hFb i hi⟩, o.frame (ok_mkA w0) fun i hi => (del_ne (hFb i hi)).symm⟩
  clear o f hFb k hrd
  have fill : ∀ (s' : Vw) (q : Nat), SM w0 σ b q s' w ms → q + 10 ≤ p + 20 → VMF w0 (ptr b) w s' R := fun s' q h' hq => marks_fill h' (by omega) hs fun v' ms' s'' r1 r2 r3 r4 => hR v' ms' s'' (r1.more (by omega)) r2 r3 r4
  have hl6 := hs.1
  rw [hsm.read.len, pBin_eq, pIf_d]
  refine ⟨fun _ => fill s p hsm (by omega), fun hne => ?_⟩
  refine spec_pick (n := 4) hsm.rd (by omega) (by omega) fun j s1 hj hrd1 hd1 _ => ?_
  have k1 : Keeps (s.del b) (s1.del b) := by rw [hd1]; exact Keeps.refl _
  have h1 := hsm.next hrd1 k1
  rw [pBin_eq, pIf_d]
  refine ⟨fun _ => fill s1 (p + 1) h1 (by omega), fun _ => ?_⟩
  rw [h1.read.len]
  refine spec_pick hrd1 (by omega) (by omega) fun kk s2 hkk hrd2 hd2 _ => ?_
  have k2 : Keeps (s1.del b) (s2.del b) := by rw [hd2]; exact Keeps.refl _
  refine spec_pick (n := 4) hrd2 (by omega) (by omega) fun j3 s3 hj3 hrd3 hd3 _ => ?_
  have k3 : Keeps (s2.del b) (s3.del b) := by rw [hd3]; exact Keeps.refl _
  have h3 := (h1.next hrd2 k2).next hrd3 k3
  have hmk := List.getElem?_eq_getElem hkk
  generalize ms[kk]'hkk = mk at hmk
  have hmkl := hs.2 mk (List.mem_of_getElem? hmk)
  have h30 := h3
  obtain ⟨F, q1, q2, q3, q4⟩ := h3
  obtain ⟨bl, o, f, u, r, A, C, hix, hbl, hr, hcells, hA, ho, hblF, hfF, hput⟩ := mark_at q4 hmk
  have hblb : bl ≠ b := (q3 bl hblF).2
  -- what is handed back once the mark is written
  have fin : ∀ (s' : Vw) (q : Nat) (u' : Value) (d' : Bool) (p' : List ByteArray) (r' : Row), RD w0 s' b q → q ≤ p + 20 → Keeps (σ.del b) (s'.del b) → s' bl = some r' → r'.cells = A ++ ([u', .bool d'] ++ C) → RSl 1 RS (Av.get w0 (s'.del b)) u' p' → p'.length ≤ 8 → (∀ i, i ∈ F → i ≠ bl → i ∉ f → s' i = s3 i) → R w s' := by
    intro s' q u' d' p' r' t1 t2 t3 t4 t5 t6 t7 t8
    refine hR w (ms.set kk (p', d')) s' (t1.more t2) t3 (hput (s'.del b) u' d' p' r' (by rw [del_ne hblb]; exact t4) t5 t6 fun i hi h1 h2 => by rw [del_ne (q3 i hi).2]; exact t8 i hi h1 h2) ⟨by rw [List.length_set]; omega, fun m hm => ?_⟩
    rcases List.mem_or_eq_of_mem_set hm with e | e
    · have := hs.2 m e; omega
    · rw [e]; exact t7
  have husF : ∀ s' : Vw, (∀ i, i ∈ f → s' i = s3 i) → RSl 1 RS (Av.get w0 (s'.del b)) u mk.1 := fun s' hf => (OSl.frame (σ' := s'.del b) (ok_str w0) ho.osl fun i hi => by rw [del_ne (q3 i (hfF i hi).1).2]; exact hf i hi).rel (ok_str w0)
  -- a store into the mark's row
  have stK : ∀ (s' : Vw) (c : List Value), Keeps (σ.del b) (s'.del b) → Keeps (σ.del b) ((s'.put bl ⟨r.ety, A ++ (c ++ C), r.cap, r.fz⟩).del b) := fun s' c k i x hi => by
    obtain ⟨e1, e2⟩ := del_some hi
    have e3 := k i x hi
    rw [del_ne e1] at e3 ⊢
    have e4 : i ≠ bl := fun e => by rw [e, (q3 bl hblF).1] at hi; cases hi
    rw [put_ne e4]; exact e3
  rw [pBin_eq, pIf_d]
  refine ⟨fun _ => ?_, fun _ => ?_⟩
  · refine hix _ ?_
    refine field_load (c := [u, .bool mk.2]) hbl hr hcells hA (by rfl) fun g hg => ?_
    rw [hg, pUn_not]
    refine hix _ ?_
    refine field_store (c := [u, .bool mk.2]) hr hcells hA (by simp) rfl ?_
    simp only [List.set_cons_succ, List.set_cons_zero]
    exact fin _ (p + 1 + 1 + 1) u (!mk.2) mk.1 ⟨r.ety, A ++ ([u, .bool (!mk.2)] ++ C), r.cap, r.fz⟩ (q1.keep (put_ne hblb.symm)) (by omega) (stK s3 _ q2) put_at rfl (husF _ fun i hi => put_ne (hfF i hi).2) (by omega) fun i hi e1 e2 => put_ne e1
  rw [pBin_eq, pIf_d]
  refine ⟨fun _ => ?_, fun _ => ?_⟩
  · refine hix _ ?_
    refine field_ldp (c := [u, .bool mk.2]) hbl hr hcells hA (by rfl) fun g hg => ?_
    rw [hg, pVal1 rfl, pVal1 rfl, pVal1 rfl]
    intro n1 g1 g2
    have hsz : ∀ x, x ∈ [(⟨#[97]⟩ : ByteArray), ⟨#[]⟩, ⟨#[120]⟩] → x.size ≤ 7 := by
      intro x hx
      simp at hx
      rcases hx with rfl | rfl | rfl <;> decide
    have kput := Keeps.put (r := ⟨t_string, [.string ⟨#[97]⟩, .string ⟨#[]⟩, .string ⟨#[120]⟩], 3, (0, 0)⟩) g2
    obtain ⟨hne, hrd4, k4⟩ := q1.new (r := ⟨t_string, [.string ⟨#[97]⟩, .string ⟨#[]⟩, .string ⟨#[120]⟩], 3, (0, 0)⟩) g2
    refine ⟨kput.stay, ?_⟩
    have hrow := row_strs (xs := [(⟨#[97]⟩ : ByteArray), ⟨#[]⟩, ⟨#[120]⟩]) (k := 3) (s := (s3.put n1 ⟨t_string, [.string ⟨#[97]⟩, .string ⟨#[]⟩, .string ⟨#[120]⟩], 3, (0, 0)⟩).del b) g1 (by rw [del_ne hne]; exact put_at) (fun x hx => by have := hsz x hx; omega) (by simp)
    have hs4 : ∀ i, s3 i ≠ none → (s3.put n1 ⟨t_string, [.string ⟨#[97]⟩, .string ⟨#[]⟩, .string ⟨#[120]⟩], 3, (0, 0)⟩ : Vw) i = s3 i := fun i hi => put_ne fun e => hi (e ▸ g2)
    refine spec_of hrd4 (by omega) hrow (by simp) fun x s5 hx hrd5 hd5 ho5 => ?_
    have hxs := hsz x hx
    have h35 : ∀ i, i ≠ b → s3 i ≠ none → s5 i = s3 i := fun i h1 h2 => by rw [ho5 i h1]; exact hs4 i h2
    refine ⟨stay_at (ho5 bl hblb), ?_⟩
    rw [pVal1 rfl]
    have ho' := ho.frame (σ' := s5) (ok_str w0) fun i hi => h35 i (q3 i (hfF i hi).1).2 (ho.dom (ok_str w0) i hi).2
    refine ho'.one (ok_str w0) (f := []) (y := x) ⟨rfl, rfl, by omega⟩ (fun i hi => by cases hi) (by omega) (by omega) fun v7 f7 s7 k7 o7 g7 => ?_
    have hr5 : s5 bl = some r := by rw [h35 bl hblb (by rw [hr]; simp)]; exact hr
    have hblf : bl ∉ f := fun h => (hfF bl h).2 rfl
    have hr7 : s7 bl = some r := k7 bl r hr5 hblf
    have hbf : b ∉ f := fun h => (q3 b (hfF b h).1).2 rfl
    have hs7b : s7 b = s5 b := by
      cases hb : s5 b with
      | none => exact absurd hb hrd5.at
      | some rr => exact k7 b rr hb hbf
    have K5 : Keeps (σ.del b) (s5.del b) := by rw [hd5]; exact q2.trans k4
    have K7 : Keeps (σ.del b) (s7.del b) := fun i rr hi => by
      obtain ⟨e1, e2⟩ := del_some hi
      have e3 := K5 i rr hi
      rw [del_ne e1] at e3 ⊢
      exact k7 i rr e3 fun hf => by rw [(q3 i (hfF i hf).1).1] at hi; cases hi
    refine hix _ ?_
    refine field_store (c := [u, .bool mk.2]) hr7 hcells hA (by simp) (OSl.one' o7.osl) ?_
    simp only [List.set_cons_succ, List.set_cons_zero]
    have hf7 : ∀ i, i ∈ f7 → i ≠ bl ∧ i ≠ b := fun i hi => by
      rcases g7 i hi with e | e | e
      · exact ⟨(hfF i e).2, (q3 i (hfF i e).1).2⟩
      · cases e
      · exact ⟨fun e' => (by rw [e', hr5] at e; cases e), fun e' => hrd5.at (e' ▸ e)⟩
    refine fin _ (p + 1 + 1 + 1 + 1) v7 mk.2 (mk.1 ++ [x]) ⟨r.ety, A ++ ([v7, .bool mk.2] ++ C), r.cap, r.fz⟩ ((hrd5.keep hs7b).keep (put_ne hblb.symm)) (by omega) (stK s7 _ K7) put_at rfl ?_ (by rw [List.length_append]; simp only [List.length_singleton]; omega) fun i hi e1 e2 => ?_
    · exact (OSl.frame (σ' := (s7.put bl ⟨r.ety, A ++ ([v7, .bool mk.2] ++ C), r.cap, r.fz⟩).del b) (ok_str w0) o7.osl fun i hi => by rw [del_ne (hf7 i hi).2, put_ne (hf7 i hi).1]).rel (ok_str w0)
    · rw [put_ne e1]
      have h3n := (q4.dom (ok_mkA w0) i hi).2
      have e5 := h35 i (q3 i hi).2 h3n
      cases hs3 : s3 i with
      | none => exact absurd hs3 h3n
      | some rr => exact k7 i rr (by rw [e5]; exact hs3) e2
  rw [pBin_eq, pIf_d]
  refine ⟨fun _ => ?_, fun _ => ?_⟩
  · obtain ⟨F2, hF2, o2⟩ := OAcc.to_base (ok_mkA w0) (D := [b]) q4 fun i hi h => (q3 i hi).2 (List.mem_singleton.1 h)
    have okB := ok_base rok_mk w0 (Av.get w0 (s3.delF ([b] ++ F2)))
    refine ((OAcc.osl o2).rel okB).at hmk fun g hg => ?_
    have hg0 : RMk (Av.get w0 (s3.delF ([b] ++ F2))) (expl g 0 2) mk := hg
    obtain ⟨uu, hgu, ru⟩ := hg
    simp only [expl, List.cons.injEq, and_true] at hgu
    rw [hgu.1, hgu.2, pVal_2 ru.one rfl]
    refine o2.one okB (f := []) (y := mk) ⟨rfl, ⟨uu, rfl, ru⟩⟩ (fun i hi => by cases hi) (by omega) (by omega) fun v7 F7 s7 k7 o7 g7 => ?_
    have hbF2 : b ∉ F2 := fun h => (q3 b (hF2 b h)).2 rfl
    have hs7b : s7 b = s3 b := by
      cases hb : s3 b with
      | none => exact absurd hb q1.at
      | some rr => exact k7 b rr hb hbF2
    have K7 : Keeps (σ.del b) (s7.del b) := fun i rr hi => by
      obtain ⟨e1, e2⟩ := del_some hi
      have e3 := q2 i rr hi
      rw [del_ne e1] at e3 ⊢
      exact k7 i rr e3 fun hf => by rw [(q3 i (hF2 i hf)).1] at hi; cases hi
    have hF7b : ∀ i, i ∈ F7 → i ≠ b := fun i hi e => by
      rcases g7 i hi with e' | e' | e'
      · exact hbF2 (e ▸ e')
      · cases e'
      · exact q1.at (e ▸ e')
    refine hR v7 _ s7 ((q1.keep hs7b).more (by omega)) K7 (RSl.unbase rok_mk ((OSl.frame (σ' := s7.del b) okB (OAcc.osl o7) fun i hi => del_ne (hF7b i hi)).rel okB) (Keeps.le fun i rr hi => ?_)) ⟨by rw [List.length_append]; simp only [List.length_singleton]; omega, fun m hm => ?_⟩
    · obtain ⟨e1, e2⟩ := delF_some hi
      have e3 : i ≠ b := fun e => e1 (by simp [e])
      rw [del_ne e3]
      exact k7 i rr e2 fun h => e1 (by simp [h])
    · rcases List.mem_append.1 hm with e | e
      · have := hs.2 m e; omega
      · rw [List.mem_singleton.1 e]; omega
  · intro n1 g1 g2
    have hs4 : ∀ i, s3 i ≠ none → (s3.put n1 ⟨t_string, [], 0, (0, 0)⟩ : Vw) i = s3 i := fun i hi => put_ne fun e => hi (e ▸ g2)
    obtain ⟨hne, hrd4, k4⟩ := q1.new (r := ⟨t_string, [], 0, (0, 0)⟩) g2
    have hr4 : (s3.put n1 ⟨t_string, [], 0, (0, 0)⟩ : Vw) bl = some r := by rw [hs4 bl (by rw [hr]; simp)]; exact hr
    refine hix _ ?_
    refine field_store (c := [u, .bool mk.2]) hr4 hcells hA (by simp) rfl ?_
    simp only [List.set_cons_succ, List.set_cons_zero]
    refine fin _ (p + 1 + 1 + 1) _ mk.2 [] ⟨r.ety, A ++ ([.slice (some ⟨n1, 0, none⟩) 0 0, .bool mk.2] ++ C), r.cap, r.fz⟩ (hrd4.keep (put_ne hblb.symm)) (by omega) (stK _ _ (q2.trans k4)) put_at rfl nilPath (by simp) fun i hi e1 e2 => ?_
    rw [put_ne e1]
    exact hs4 i (q4.dom (ok_mkA w0) i hi).2

theorem spec_l13Any {b p n : Nat} {es : List Value} {x : Tr} (h : RD w0 σ b p) (hp : p ≤ 700000) (ht : RT n (Av.get w0 (σ.del b)) es x) (hs : szT n x ≤ 1000000000) {R : Value → Vw → Prop} (hR : OutMR w0 σ b (p + 400) 8 R) : AC Tryz.prog w0 n_spec_l13Any [ptr b, .agg ⟨es⟩] σ R := by
  have ht0 := ht
  obtain ⟨c0, c1, c2, c3, c4, rfl, hp5⟩ := ht.shape
  refine ac_spec_l13Any ?_
  unfold vc_spec_l13Any
  rw [hp5]
  simp only [cellOf_agg, List.getD_cons_zero, List.getD_cons_succ]
  refine spec_l13Trail h (by omega) ht0 hs fun v ms s1 hrd1 k1 hv hvs => ?_
  refine spec_pick (n := 20) hrd1 (by omega) (by omega) fun j s2 hj hrd2 hd2 _ => ?_
  have k2 : Keeps (s1.del b) (s2.del b) := by rw [hd2]; exact Keeps.refl _
  have hv2 := hv.mono k2.le fun _ _ => mono_mk k2.le
  rw [pBin_eq, pIf_d]
  refine ⟨fun _ => ?_, fun _ => hR v ms s2 (hrd2.more (by omega)) (k1.trans k2) hv2 (hvs.more (by omega))⟩
  exact spec_l13Spoil hrd2 (by omega) hv2 hvs fun v' ms' s3 r1 r2 r3 r4 => hR v' ms' s3 (r1.more (by omega)) ((k1.trans k2).trans r2) r3 r4
end
end Go.Proofs.YtkbhjejalkbogaaGreat

/- Whether all that differs is marked, by either hand; 'TrailCovers' and its law. -/
set_option linter.unusedVariables false
set_option linter.unusedSimpArgs false
set_option maxRecDepth 20000
namespace Go.Proofs.YtkbhjejalkbogaaGreat
open Go Go.Av

noncomputable def coversX (n m : Nat) (x y : Tr) (ms : List Mk) : Bool := (treeOk n x && treeOk m y) && (trailOk ms && covP 5 ms [] (some x) (some y))
section
variable {w0 : World} {σ : Vw}

/-- The names one by one, by the reference's hand. -/
def VSC (w0 : World) (v mv x0 x1 x2 x3 x4 y0 y1 y2 y3 y4 : Value) (s : Vw) (R : Value → Vw → Prop) : Prop :=
  AC Tryz.prog w0 n_spec_l12Names ([.agg (⟨[x0, x1, x2, x3, x4]⟩), .agg (⟨[y0, y1, y2, y3, y4]⟩)]) s (fun v4 s5 => pLoop (fun l6 K7 s8 => pLen (vget l6 3) (fun v9 => pBin Tryz.prog 3 .lss (vget l6 4) v9 (fun v10 => pIf v10 (pIndexAddr 1 (vget l6 3) (vget l6 4) (fun v11 => pLoad w0 1 v11 s8 (fun g12 => AC Tryz.prog w0 n_spec_l12Kid ([.agg (⟨[vget l6 5, vget l6 6, vget l6 7, vget l6 8, vget l6 9]⟩), g12 0]) s8 (fun v13 s14 => pExtract v13 0 (fun v15 => pExtract v13 1 (fun v16 => pVal true 5 v15 (pIndexAddr 1 (vget l6 3) (vget l6 4) (fun v17 => pLoad w0 1 v17 s14 (fun g18 => AC Tryz.prog w0 n_spec_l12Kid ([.agg (⟨[vget l6 10, vget l6 11, vget l6 12, vget l6 13, vget l6 14]⟩), g18 0]) s14 (fun v19 s20 => pExtract v19 0 (fun v21 => pExtract v19 1 (fun v22 => pVal true 5 v21 (pIndexAddr 1 (vget l6 3) (vget l6 4) (fun v23 => pLoad w0 1 v23 s20 (fun g24 => AC Tryz.prog w0 n_spec_l3Path [vget l6 0, g24 0] s20 (fun v25 s26 => AC Tryz.prog w0 n_spec_l12Covers ([v25, .agg (⟨[cellOf v15 0, cellOf v15 1, cellOf v15 2, cellOf v15 3, cellOf v15 4]⟩), v16, .agg (⟨[cellOf v21 0, cellOf v21 1, cellOf v21 2, cellOf v21 3, cellOf v21 4]⟩), v22, vget l6 1]) s26 (fun v27 s28 => pUn UnOp.not v27 (fun v29 => pIf v29 (K7 AX.ret [vget l6 0, vget l6 1, .bool false, vget l6 3, vget l6 4, vget l6 5, vget l6 6, vget l6 7, vget l6 8, vget l6 9, vget l6 10, vget l6 11, vget l6 12, vget l6 13, vget l6 14] s28) (pBin Tryz.prog 3 .add (vget l6 4) (.int .i64 1) (fun v30 => K7 AX.normal [vget l6 0, vget l6 1, vget l6 2, vget l6 3, v30, vget l6 5, vget l6 6, vget l6 7, vget l6 8, vget l6 9, vget l6 10, vget l6 11, vget l6 12, vget l6 13, vget l6 14] s28)))))))))))))))))))) (K7 (AX.exit 0) [vget l6 0, vget l6 1, vget l6 2, vget l6 3, vget l6 4, vget l6 5, vget l6 6, vget l6 7, vget l6 8, vget l6 9, vget l6 10, vget l6 11, vget l6 12, vget l6 13, vget l6 14] s8)))) [v, mv, .bool false, v4, .int .i64 0, x0, x1, x2, x3, x4, y0, y1, y2, y3, y4] s5 (fun x31 l32 s33 => match x31 with | .normal => R (.bool true) s33 | .ret => R (vget l32 2) s33 | .exit i34 => (match Nat.beq i34 0 with | true => R (.bool true) s33 | false => False)))

theorem all_take {α : Type} {W : α → Bool} {L : List α} {j : Nat} {x : α} (hj : L[j]? = some x) : (L.take (j + 1)).all W = ((L.take j).all W && W x) := by
  rw [List.take_add_one, hj, List.all_append]; simp
theorem all_bad {α : Type} {W : α → Bool} {L : List α} {j : Nat} {x : α} (hj : L[j]? = some x) (h : W x = false) : L.all W = false := by
  cases hc : L.all W with
  | false => rfl
  | true => rw [List.all_eq_true] at hc; rw [hc x (List.mem_of_getElem? hj)] at h; cases h
theorem covP_names {n : Nat} {ms : List Mk} {ps : List ByteArray} {a b : Option Tr} (hx : fineT (n + 1) (a.getD zeroT)) (hy : fineT (n + 1) (b.getD zeroT)) :
    covP (n + 1) ms ps a b = ((!diffB a b || markedB ms ps) && (namesU (namesOf (a.getD zeroT) ++ namesOf (b.getD zeroT))).all fun nm => covP n ms (ps ++ [nm]) (kidT (a.getD zeroT) nm) (kidT (b.getD zeroT) nm)) := by
  show (_ && (mrgK (partsOf (a.getD zeroT)) (partsOf (b.getD zeroT))).all _) = _
  rw [mrg_kids hx hy, List.all_map]
  rfl

theorem spec_Covers : ∀ (n : Nat) {σ : Vw} {v mv : Value} {es es' : List Value} {ps : List ByteArray} {ms : List Mk} {a b : Option Tr} {R : Value → Vw → Prop}, RSl 1 RS (Av.get w0 σ) v ps → RSl 2 RMk (Av.get w0 σ) mv ms → RT n (Av.get w0 σ) es (a.getD zeroT) → RT n (Av.get w0 σ) es' (b.getD zeroT) → fineO n a → fineO n b →
    ¬ (a = none ∧ b = none) → ps.length + sumS ps + 6 * n ≤ 1000000 → (∀ s, Keeps σ s → R (.bool (covP n ms ps a b)) s) → AC Tryz.prog w0 n_spec_l12Covers [v, .agg ⟨es⟩, .bool a.isSome, .agg ⟨es'⟩, .bool b.isSome, mv] σ R := by
  intro n
  induction n with
  | zero => intro σ v mv es es' ps ms a b R _ _ h; exact h.elim
  | succ n ih =>
    intro σ v mv es es' ps ms a b R hv hm h h' hfa hfb hne hps hR
    have h0 := h
    have h0' := h'
    have hx := fine_getD hfa
    have hy := fine_getD hfb
    obtain ⟨u, w, rfl, _, _, _, _, hp⟩ := h.cells
    obtain ⟨u', w', rfl, _, _, _, _, hp'⟩ := h'.cells
    refine ac_spec_l12Covers ?_
    unfold vc_spec_l12Covers cs_spec_l12Covers_1
    rw [hp, hp']
    simp only [cellOf_agg, List.getD_cons_zero, List.getD_cons_succ]
    have hcov := covP_names (ms := ms) (ps := ps) hx hy
    have hl1 := fine_len hx
    have hl2 := fine_len hy
    have hLl := names_both hx hy
    have hLm : ∀ z, z ∈ namesU (namesOf (a.getD zeroT) ++ namesOf (b.getD zeroT)) → z ∈ namesOf (a.getD zeroT) ∨ z ∈ namesOf (b.getD zeroT) := fun z hz => by rw [namesU_mem, List.mem_append] at hz; exact hz
    -- the names one by one
    have TAIL : (!diffB a b || markedB ms ps) = true → VSC w0 v mv (.bool (isDir (a.getD zeroT))) (.int .i64 (modeOf (a.getD zeroT))) (.string (dataOf (a.getD zeroT))) u w (.bool (isDir (b.getD zeroT))) (.int .i64 (modeOf (b.getD zeroT))) (.string (dataOf (b.getD zeroT))) u' w' σ R := by
      intro hd
      rw [hd, Bool.true_and] at hcov
      rw [hcov] at hR
      clear hcov
      unfold VSC
      refine spec_l12Names h0 h0' (fine_asc hx) (fine_asc hy) (by omega) fun nv F s1 k1 on fn => ?_
      generalize namesU (namesOf (a.getD zeroT) ++ namesOf (b.getD zeroT)) = L at *
      generalize hW : (fun nm => covP n ms (ps ++ [nm]) (kidT (a.getD zeroT) nm) (kidT (b.getD zeroT) nm)) = W at hR
      refine loop_rule (m := L.length) (fun c l st => ∃ j : Nat, c + j = L.length ∧ Keeps σ st ∧ OStrs w0 st F nv L ∧ (L.take j).all W = true ∧
          l = [v, mv, .bool false, nv, .int .i64 (j : Nat), .bool (isDir (a.getD zeroT)), .int .i64 (modeOf (a.getD zeroT)), .string (dataOf (a.getD zeroT)), u, w, .bool (isDir (b.getD zeroT)), .int .i64 (modeOf (b.getD zeroT)), .string (dataOf (b.getD zeroT)), u', w']) ?_
        ⟨0, by omega, k1, on, by simp, rfl⟩
      rintro c l st L' ⟨j, hcj, ks, hon, hal, rfl⟩ hL'
      simp only [vget, List.getD_cons_zero, List.getD_cons_succ]
      have onr := hon.rel (ok_str w0)
      rw [onr.len, pBin_lt, pIf_d]
      refine ⟨fun hj => ?_, fun hj => ?_⟩
      · have hnm := List.getElem?_eq_getElem (show j < L.length by omega)
        generalize L[j]'(by omega) = nm at hnm
        have hmem := hLm nm (List.mem_of_getElem? hnm)
        have hn0 : n ≠ 0 := by
          rcases hmem with hm | hm
          · exact kid_level hx hm
          · exact kid_level hy hm
        obtain ⟨n', rfl⟩ := Nat.exists_eq_succ_of_ne_zero hn0
        have hsz5 : nm.size ≤ 5 := by
          rcases hmem with h | h
          · exact name_short hx.1 h
          · exact name_short hy.1 h
        refine RSl.at1 onr hnm fun g hg hgs => ?_
        rw [hg]
        refine spec_l12Kid (mono_rt _ _ _ _ _ ks.le h0) hx hgs fun e1 s2 k2 r1 => ?_
        have r10 := r1
        obtain ⟨u2, w2, rfl, _, _, _, _, hp2⟩ := r1.cells
        rw [pExtract_s rfl, pExtract_s rfl, hp2]
        refine RSl.at1 (onr.mono k2.le fun _ _ h => h) hnm fun g' hg' _ => ?_
        rw [hg']
        refine spec_l12Kid (mono_rt _ _ _ _ _ (ks.trans k2).le h0') hy hgs fun e2 s3 k3 r2 => ?_
        have r20 := r2
        obtain ⟨u3, w3, rfl, _, _, _, _, hp3⟩ := r2.cells
        rw [pExtract_s rfl, pExtract_s rfl, hp3]
        have K3 := (ks.trans k2).trans k3
        refine RSl.at1 (onr.mono (k2.trans k3).le fun _ _ h => h) hnm fun g2 hg2 _ => ?_
        rw [hg2]
        refine spec_path (hv.mono K3.le fun _ _ h => h) (by omega) (by omega) fun pv PF s4 k4 op fp => ?_
        simp only [cellOf_agg, List.getD_cons_zero, List.getD_cons_succ]
        have f1 := fine_getD (kid_fineT hx nm)
        have f2 := fine_getD (kid_fineT hy nm)
        have K4 := K3.trans k4
        have hne' : ¬ (kidT (a.getD zeroT) nm = none ∧ kidT (b.getD zeroT) nm = none) := fun h => by
          rcases hmem with hm | hm
          · exact kid_there hx.1 hm h.1
          · exact kid_there hy.1 hm h.2
        refine ih (a := kidT (a.getD zeroT) nm) (b := kidT (b.getD zeroT) nm) (op.rel (ok_str w0)) (hm.mono K4.le fun _ _ => mono_mk K4.le) (RT_short _ _ _ _ _ (mono_rt _ _ _ _ _ (k3.trans k4).le r10) f1.1) (RT_short _ _ _ _ _ (mono_rt _ _ _ _ _ k4.le r20) f2.1) (kid_fineT hx nm) (kid_fineT hy nm) hne'
          (by rw [List.length_append, sumS_snoc]; simp only [List.length_cons, List.length_nil]; omega) fun s5 k5 => ?_
        have hW1 : covP (n' + 1) ms (ps ++ [nm]) (kidT (a.getD zeroT) nm) (kidT (b.getD zeroT) nm) = W nm := by rw [← hW]
        rw [hW1, pUn_not, pIf_b]
        have K5 := K4.trans k5
        refine ⟨fun hb => ?_, fun hb => ?_⟩
        · have hb' : W nm = false := by simpa using hb
          have := hR s5 K5
          rw [all_bad hnm hb'] at this
          exact this
        · have hb' : W nm = true := by simpa using hb
          rw [pBin_add (by omega)]
          have kk := ((k2.trans k3).trans k4).trans k5
          exact hL' _ _ (c - 1) (by omega) ⟨j + 1, by omega, K5, hon.frame (ok_str w0) (kk.but_at fun i hi => (hon.dom (ok_str w0) i hi).2), by rw [all_take hnm, hal, hb']; rfl, by simp⟩
      · have e : j = L.length := by omega
        subst e
        rw [List.take_length] at hal
        have := hR st ks
        rw [hal] at this
        exact this
    -- what differs
    have DIFF : diffB a b = true → AC Tryz.prog w0 n_spec_l11Marked [mv, v] σ (fun v1 s2 => pUn UnOp.not v1 (fun v3 => pIf v3 (R (.bool false) s2) (VSC w0 v mv (.bool (isDir (a.getD zeroT))) (.int .i64 (modeOf (a.getD zeroT))) (.string (dataOf (a.getD zeroT))) u w (.bool (isDir (b.getD zeroT))) (.int .i64 (modeOf (b.getD zeroT))) (.string (dataOf (b.getD zeroT))) u' w' s2 R))) := by
      intro hd
      refine spec_l11Marked hm hv ?_
      rw [pUn_not, pIf_b]
      refine ⟨fun hmk => ?_, fun hmk => ?_⟩
      · have hmk' : markedB ms ps = false := by simpa using hmk
        have := hR σ (Keeps.refl _)
        rw [hcov, hd, hmk'] at this
        exact this
      · have hmk' : markedB ms ps = true := by simpa using hmk
        exact TAIL (by rw [hmk']; simp)
    have eb : ∀ (p q : Bool) (K : Value → Prop), pBin Tryz.prog 4 .neq (.bool p) (.bool q) K ↔ K (.bool !(p == q)) := fun p q K => pBin_b (by kernel_rfl) rfl
    rw [eb, pIf_b]
    cases a with
    | none =>
      cases b with
      | none => exact absurd ⟨rfl, rfl⟩ hne
      | some y => exact ⟨fun _ => DIFF rfl, fun h => by cases h⟩
    | some x =>
      cases b with
      | none => exact ⟨fun _ => DIFF rfl, fun h => by cases h⟩
      | some y =>
        refine ⟨fun h => (by cases h), fun _ => ?_⟩
        have hdf : diffB (some x) (some y) = !(decide (isDir x = isDir y) && (decide (modeOf x = modeOf y) && decide (dataOf x = dataOf y))) := rfl
        rw [eb, pIf_b]
        refine ⟨fun hd => DIFF ?_, fun hd => ?_⟩
        · have : ¬ isDir x = isDir y := by simpa using hd
          rw [hdf, decide_eq_false this]; rfl
        have hd' : isDir x = isDir y := by simpa using hd
        rw [pBin_ne, pIf_d]
        refine ⟨fun hmo => DIFF ?_, fun hmo => ?_⟩
        · rw [hdf, decide_eq_false (show ¬ modeOf x = modeOf y from hmo)]; simp
        have hmo' : modeOf x = modeOf y := Decidable.not_not.1 hmo
        rw [pBin_sne, pIf_d]
        refine ⟨fun hda => DIFF ?_, fun hda => TAIL ?_⟩
        · rw [hdf, decide_eq_false (show ¬ dataOf x = dataOf y from hda)]; simp
        · have hda' : dataOf x = dataOf y := Decidable.not_not.1 hda
          rw [hdf, decide_eq_true hd', decide_eq_true hmo', decide_eq_true hda']; rfl

/-- The names one by one, by the program's hand. -/
def VIC (w0 : World) (v p q mv : Value) (s : Vw) (R : Value → Vw → Prop) : Prop :=
  AC Tryz.prog w0 n_impl_either [p, q] s (fun v25 s26 => pLen v25 (fun v27 => pLoop (fun l28 K29 s30 => pBin Tryz.prog 3 .lss (vget l28 7) (vget l28 6) (fun v31 => pIf v31 (pIndexAddr 1 (vget l28 5) (vget l28 7) (fun v32 => pLoad w0 1 v32 s30 (fun g33 => AC Tryz.prog w0 n_impl_below [vget l28 0, g33 0] s30 (fun v34 s35 => AC Tryz.prog w0 n_p_impl_Tree_kid [vget l28 1, g33 0] s35 (fun v36 s37 => AC Tryz.prog w0 n_p_impl_Tree_kid [vget l28 2, g33 0] s37 (fun v38 s39 => AC Tryz.prog w0 n_impl_covers [v34, v36, v38, vget l28 3] s39 (fun v40 s41 => pUn UnOp.not v40 (fun v42 => pIf v42 (K29 AX.ret [vget l28 0, vget l28 1, vget l28 2, vget l28 3, .bool false, vget l28 5, vget l28 6, vget l28 7] s41) (pBin Tryz.prog 3 .add (vget l28 7) (.int .i64 1) (fun v43 => K29 AX.normal [vget l28 0, vget l28 1, vget l28 2, vget l28 3, vget l28 4, vget l28 5, vget l28 6, v43] s41)))))))))) (K29 (AX.exit 0) [vget l28 0, vget l28 1, vget l28 2, vget l28 3, vget l28 4, vget l28 5, vget l28 6, vget l28 7] s30))) [v, p, q, mv, .bool false, v25, v27, .int .i64 0] s26 (fun x44 l45 s46 => match x44 with | .normal => R (.bool true) s46 | .ret => R (vget l45 4) s46 | .exit i47 => (match Nat.beq i47 0 with | true => R (.bool true) s46 | false => False))))
def VIT (w0 : World) (v a1 a2 mv : Value) (s : Vw) (R : Value → Vw → Prop) : Prop :=
  pVal true 5 (.agg (⟨[.bool false, .int .i64 0, .string ({ data := #[] }), .slice none 0 0, .slice none 0 0]⟩)) (pNew w0 t_impl_Tree ([.bool false, .int .i64 0, .string ({ data := #[] }), .slice none 0 0, .slice none 0 0]) s (fun n21 s22 => pBin Tryz.prog t_p_impl_Tree .eql a1 (.pointer none) (fun v23 => pIf v23 (pBin Tryz.prog t_p_impl_Tree .eql a2 (.pointer none) (fun v24 => pIf v24 (VIC w0 v (.pointer (some (Addr.mk n21 0 none))) (.pointer (some (Addr.mk n21 0 none))) mv s22 R) (VIC w0 v (.pointer (some (Addr.mk n21 0 none))) a2 mv s22 R))) (pBin Tryz.prog t_p_impl_Tree .eql a2 (.pointer none) (fun v71 => pIf v71 (VIC w0 v a1 (.pointer (some (Addr.mk n21 0 none))) mv s22 R) (VIC w0 v a1 a2 mv s22 R))))))

theorem impl_covers : ∀ (n : Nat) {σ : Vw} {v mv p q : Value} {ps : List ByteArray} {ms : List Mk} {a b : Option Tr} {R : Value → Vw → Prop}, RSl 1 RS (Av.get w0 σ) v ps → RSl 2 RMk (Av.get w0 σ) mv ms → PO n (Av.get w0 σ) p a → PO n (Av.get w0 σ) q b → fineO n a → fineO n b →
    ¬ (a = none ∧ b = none) → ps.length + sumS ps + 6 * n ≤ 1000000 → (∀ s, Keeps σ s → R (.bool (covP n ms ps a b)) s) → AC Tryz.prog w0 n_impl_covers [v, p, q, mv] σ R := by
  intro n
  induction n with
  | zero =>
    intro σ v mv p q ps ms a b R _ _ ha hb _ _ hne
    exfalso
    cases a with
    | some x => obtain ⟨_, _, _, _, _, h⟩ := ha; exact h
    | none => cases b with
      | some x => obtain ⟨_, _, _, _, _, h⟩ := hb; exact h
      | none => exact hne ⟨rfl, rfl⟩
  | succ n ih =>
    intro σ v mv p q ps ms a b R hv hm ha hb hfa hfb hne hps hR
    have hx := fine_getD hfa
    have hy := fine_getD hfb
    refine ac_impl_covers ?_
    unfold vc_impl_covers cs_impl_covers_3 cs_impl_covers_1 cs_impl_covers_2
    have hcov := covP_names (ms := ms) (ps := ps) hx hy
    have hl1 := fine_len hx
    have hl2 := fine_len hy
    have hLl := names_both hx hy
    have hLm : ∀ z, z ∈ namesU (namesOf (a.getD zeroT) ++ namesOf (b.getD zeroT)) → z ∈ namesOf (a.getD zeroT) ∨ z ∈ namesOf (b.getD zeroT) := fun z hz => by rw [namesU_mem, List.mem_append] at hz; exact hz
    have LOOP : (!diffB a b || markedB ms ps) = true → ∀ (s : Vw) (p q : Value), Keeps σ s → PT (n + 1) (Av.get w0 s) p (a.getD zeroT) → PT (n + 1) (Av.get w0 s) q (b.getD zeroT) → VIC w0 v p q mv s R := by
      intro hd s p q k0 hpa hpb
      rw [hd, Bool.true_and] at hcov
      rw [hcov] at hR
      clear hcov
      unfold VIC
      refine impl_either hpa hpb (by omega) fun nv F s1 k1 on fn => ?_
      rw [(on.rel (ok_str w0)).len]
      generalize namesU (namesOf (a.getD zeroT) ++ namesOf (b.getD zeroT)) = L at *
      generalize hW : (fun nm => covP n ms (ps ++ [nm]) (kidT (a.getD zeroT) nm) (kidT (b.getD zeroT) nm)) = W at hR
      refine loop_rule (m := L.length) (fun c l st => ∃ j : Nat, c + j = L.length ∧ Keeps s st ∧ OStrs w0 st F nv L ∧ (L.take j).all W = true ∧
          l = [v, p, q, mv, .bool false, nv, .int .i64 (L.length : Nat), .int .i64 (j : Nat)]) ?_
        ⟨0, by omega, k1, on, by simp, rfl⟩
      rintro c l st L' ⟨j, hcj, ks, hon, hal, rfl⟩ hL'
      simp only [vget, List.getD_cons_zero, List.getD_cons_succ]
      have onr := hon.rel (ok_str w0)
      rw [pBin_lt, pIf_d]
      refine ⟨fun hj => ?_, fun hj => ?_⟩
      · have hnm := List.getElem?_eq_getElem (show j < L.length by omega)
        generalize L[j]'(by omega) = nm at hnm
        have hmem := hLm nm (List.mem_of_getElem? hnm)
        have hsz5 : nm.size ≤ 5 := by
          rcases hmem with h | h
          · exact name_short hx.1 h
          · exact name_short hy.1 h
        refine RSl.at1 onr hnm fun g hg hgs => ?_
        rw [hg]
        refine below_path (hv.mono (k0.trans ks).le fun _ _ h => h) (by omega) (by omega) fun pv PF s4 k4 op fp => ?_
        have K4 := ks.trans k4
        refine impl_kid (hpa.mono K4.le) (short_wf _ _ hx.1) fun qa hqa => ?_
        refine impl_kid (hpb.mono K4.le) (short_wf _ _ hy.1) fun qb hqb => ?_
        have hne' : ¬ (kidT (a.getD zeroT) nm = none ∧ kidT (b.getD zeroT) nm = none) := fun h => by
          rcases hmem with hm | hm
          · exact kid_there hx.1 hm h.1
          · exact kid_there hy.1 hm h.2
        refine ih (op.rel (ok_str w0)) (hm.mono (k0.trans K4).le fun _ _ => mono_mk (k0.trans K4).le) hqa hqb (kid_fineT hx nm) (kid_fineT hy nm) hne'
          (by rw [List.length_append, sumS_snoc]; simp only [List.length_cons, List.length_nil]; omega) fun s5 k5 => ?_
        have hW1 : covP n ms (ps ++ [nm]) (kidT (a.getD zeroT) nm) (kidT (b.getD zeroT) nm) = W nm := by rw [← hW]
        rw [hW1, pUn_not, pIf_b]
        have K5 := K4.trans k5
        refine ⟨fun hb => ?_, fun hb => ?_⟩
        · have hb' : W nm = false := by simpa using hb
          have := hR s5 (k0.trans K5)
          rw [all_bad hnm hb'] at this
          exact this
        · have hb' : W nm = true := by simpa using hb
          rw [pBin_add (by omega)]
          have kk := k4.trans k5
          exact hL' _ _ (c - 1) (by omega) ⟨j + 1, by omega, K5, hon.frame (ok_str w0) (kk.but_at fun i hi => (hon.dom (ok_str w0) i hi).2), by rw [all_take hnm, hal, hb']; rfl, by simp⟩
      · have e : j = L.length := by omega
        subst e
        rw [List.take_length] at hal
        have := hR st (k0.trans ks)
        rw [hal] at this
        exact this
    have TAIL : (!diffB a b || markedB ms ps) = true → ∀ s : Vw, Keeps σ s → VIT w0 v p q mv s R := by
      intro hd s k0
      unfold VIT
      rw [pVal_5 rfl rfl rfl rfl rfl]
      intro b1 hb1 hb2
      have kb : Keeps s (s.put b1 ⟨t_impl_Tree, [.bool false, .int .i64 0, .string ⟨#[]⟩, .slice none 0 0, .slice none 0 0], 5, (0, 0)⟩) := Keeps.put hb2
      have pz := PT.new (ety := t_impl_Tree) (c := 5) (RT_zero n (Av.get w0 s)) hb1 hb2
      have K := k0.trans kb
      cases a with
      | none =>
        obtain rfl : p = .pointer none := ha
        rw [pBin_nil ptr_tree, pIf_b]
        refine ⟨fun _ => ?_, fun h => by cases h⟩
        cases b with
        | none => exact absurd ⟨rfl, rfl⟩ hne
        | some y =>
          have hb' := hb
          obtain ⟨bd, es', rfl, _⟩ := hb'
          have hb : PT (n + 1) (Av.get w0 σ) (.pointer (some bd)) y := hb
          rw [pBin_nil ptr_tree, pIf_b]
          exact ⟨fun h => (by cases h), fun _ => LOOP hd _ _ _ K pz (hb.mono K.le)⟩
      | some x =>
        have ha' := ha
        obtain ⟨ad, es, rfl, _⟩ := ha'
        have ha : PT (n + 1) (Av.get w0 σ) (.pointer (some ad)) x := ha
        rw [pBin_nil ptr_tree, pIf_b]
        refine ⟨fun h => (by cases h), fun _ => ?_⟩
        cases b with
        | none =>
          obtain rfl : q = .pointer none := hb
          rw [pBin_nil ptr_tree, pIf_b]
          exact ⟨fun _ => LOOP hd _ _ _ K (ha.mono K.le) pz, fun h => by cases h⟩
        | some y =>
          have hb' := hb
          obtain ⟨bd, es', rfl, _⟩ := hb'
          have hb : PT (n + 1) (Av.get w0 σ) (.pointer (some bd)) y := hb
          rw [pBin_nil ptr_tree, pIf_b]
          exact ⟨fun h => (by cases h), fun _ => LOOP hd _ _ _ K (ha.mono K.le) (hb.mono K.le)⟩
    have DIFF : diffB a b = true → AC Tryz.prog w0 n_impl_marked [mv, v] σ (fun v18 s19 => pUn UnOp.not v18 (fun v20 => pIf v20 (R (.bool false) s19) (VIT w0 v p q mv s19 R))) := by
      intro hd
      refine impl_marked hm hv fun s k => ?_
      rw [pUn_not, pIf_b]
      refine ⟨fun hmk => ?_, fun hmk => ?_⟩
      · have hmk' : markedB ms ps = false := by simpa using hmk
        have := hR s k
        rw [hcov, hd, hmk'] at this
        exact this
      · have hmk' : markedB ms ps = true := by simpa using hmk
        exact TAIL (by rw [hmk']; simp) s k
    have NDIFF : ∀ c : Bool, c = false → diffB a b = true → pUn UnOp.not (.bool c) (fun z => pIf z (AC Tryz.prog w0 n_impl_marked [mv, v] σ (fun v18 s19 => pUn UnOp.not v18 (fun v20 => pIf v20 (R (.bool false) s19) (VIT w0 v p q mv s19 R)))) (VIT w0 v p q mv σ R)) := by
      intro c hc hd
      subst hc
      rw [pUn_not, pIf_b]
      exact ⟨fun _ => DIFF hd, fun h => by cases h⟩
    cases a with
    | none =>
      obtain rfl : p = .pointer none := ha
      rw [pBin_nnil ptr_tree, pIf_b]
      exact ⟨fun h => (by cases h), fun _ => NDIFF _ rfl rfl⟩
    | some x =>
      have ha' := ha
      obtain ⟨ad, es, rfl, _⟩ := ha'
      have ha : PT (n + 1) (Av.get w0 σ) (.pointer (some ad)) x := ha
      rw [pBin_nnil ptr_tree, pIf_b]
      refine ⟨fun _ => ?_, fun h => by cases h⟩
      cases b with
      | none =>
        obtain rfl : q = .pointer none := hb
        rw [pBin_nnil ptr_tree, pIf_b]
        exact ⟨fun h => (by cases h), fun _ => NDIFF _ rfl rfl⟩
      | some y =>
        have hb' := hb
        obtain ⟨bd, es', rfl, _⟩ := hb'
        have hb : PT (n + 1) (Av.get w0 σ) (.pointer (some bd)) y := hb
        rw [pBin_nnil ptr_tree, pIf_b]
        refine ⟨fun _ => ?_, fun h => by cases h⟩
        have hdf : diffB (some x) (some y) = !(decide (isDir x = isDir y) && (decide (modeOf x = modeOf y) && decide (dataOf x = dataOf y))) := rfl
        refine PT.ld ha 0 (by omega) fun es1 g1 he1 hg1 => ?_
        obtain ⟨u1, w1, rfl, _⟩ := he1.cells
        simp only [List.getElem?_cons_zero, Option.some.injEq] at hg1
        refine PT.ld hb 0 (by omega) fun es2 g2 he2 hg2 => ?_
        obtain ⟨u2, w2, rfl, _⟩ := he2.cells
        simp only [List.getElem?_cons_zero, Option.some.injEq] at hg2
        have eb : ∀ K : Value → Prop, pBin Tryz.prog 4 .eql (.bool (isDir x)) (.bool (isDir y)) K ↔ K (.bool (isDir x == isDir y)) := fun K => pBin_b (by kernel_rfl) rfl
        rw [← hg1, ← hg2, eb, pIf_b]
        refine ⟨fun hd => ?_, fun hd => NDIFF _ rfl ?_⟩
        · have hd' : isDir x = isDir y := by simpa using hd
          refine PT.ld ha 1 (by omega) fun es1 g1 he1 hg1 => ?_
          obtain ⟨u1, w1, rfl, _⟩ := he1.cells
          simp only [List.getElem?_cons_zero, List.getElem?_cons_succ, Option.some.injEq] at hg1
          refine PT.ld hb 1 (by omega) fun es2 g2 he2 hg2 => ?_
          obtain ⟨u2, w2, rfl, _⟩ := he2.cells
          simp only [List.getElem?_cons_zero, List.getElem?_cons_succ, Option.some.injEq] at hg2
          rw [← hg1, ← hg2, pBin_eq, pIf_d]
          refine ⟨fun hmo => ?_, fun hmo => NDIFF _ rfl ?_⟩
          · refine PT.ld ha 2 (by omega) fun es1 g1 he1 hg1 => ?_
            obtain ⟨u1, w1, rfl, _⟩ := he1.cells
            simp only [List.getElem?_cons_zero, List.getElem?_cons_succ, Option.some.injEq] at hg1
            refine PT.ld hb 2 (by omega) fun es2 g2 he2 hg2 => ?_
            obtain ⟨u2, w2, rfl, _⟩ := he2.cells
            simp only [List.getElem?_cons_zero, List.getElem?_cons_succ, Option.some.injEq] at hg2
            rw [← hg1, ← hg2, pBin_seq, pUn_not, pIf_b]
            refine ⟨fun hda => DIFF ?_, fun hda => TAIL ?_ σ (Keeps.refl _)⟩
            · have : ¬ dataOf x = dataOf y := by simpa using hda
              rw [hdf, decide_eq_false this]; simp
            · have : dataOf x = dataOf y := by simpa using hda
              rw [hdf, decide_eq_true hd', decide_eq_true hmo, decide_eq_true this]; rfl
          · rw [hdf, decide_eq_false hmo]; simp
        · have : ¬ isDir x = isDir y := by simpa using hd
          rw [hdf, decide_eq_false this]; rfl
theorem spec_TrailCovers {n m : Nat} {es es' : List Value} {v : Value} {x y : Tr} {ms : List Mk} (h : RT n (Av.get w0 σ) es x) (h' : RT m (Av.get w0 σ) es' y) (hv : RSl 2 RMk (Av.get w0 σ) v ms) (hb : cntT n x ≤ 1000000000000) (hb' : cntT m y ≤ 1000000000000) {R : Value → Vw → Prop}
    (hR : ∀ s, Keeps σ s → R (.bool (coversX n m x y ms)) s) : AC Tryz.prog w0 n_spec_TrailCovers [.agg ⟨es⟩, .agg ⟨es'⟩, v] σ R := by
  have h0 := h
  have h0' := h'
  obtain ⟨u, w, rfl, _, _, _, _, hp⟩ := h.cells
  obtain ⟨u', w', rfl, _, _, _, _, hp'⟩ := h'.cells
  refine ac_spec_TrailCovers ?_
  unfold vc_spec_TrailCovers
  rw [hp, hp']
  simp only [cellOf_agg, List.getD_cons_zero, List.getD_cons_succ]
  have R0 := hR σ (Keeps.refl _)
  refine spec_TreeOk h0 hb (pIf_b.2 ⟨fun hok => ?_, fun hno => by rw [coversX, hno] at R0; exact R0⟩)
  refine spec_TreeOk h0' hb' (pIf_b.2 ⟨fun hok' => ?_, fun hno => by rw [coversX, hok, hno] at R0; exact R0⟩)
  refine spec_TrailOk hv (pIf_b.2 ⟨fun hmk => ?_, fun hno => by rw [coversX, hok, hok', hno] at R0; exact R0⟩)
  obtain ⟨d1, x1, c1⟩ := ok_fineT hok
  obtain ⟨d2, x2, c2⟩ := ok_fineT hok'
  intro b hb1 hb2
  have k1 : Keeps σ (σ.put b ⟨t_string, [], 0, (0, 0)⟩) := Keeps.put hb2
  have hpp : RSl 1 RS (Av.get w0 (σ.put b ⟨t_string, [], 0, (0, 0)⟩)) (.slice (some ⟨b, 0, none⟩) 0 0) [] := (OAcc.new (w0 := w0) (σ := σ) (ety := t_string) (n := 1) (O := OStr) hb1).osl.rel (ok_str w0)
  refine spec_Covers 5 (a := some x) (b := some y) hpp (hv.mono k1.le fun _ _ => mono_mk k1.le) (mono_rt 5 _ _ _ _ k1.le (d1 _ _ h0)) (mono_rt 5 _ _ _ _ k1.le (d2 _ _ h0')) (fun z hz => by cases hz; exact x1) (fun z hz => by cases hz; exact x2) (fun h => by cases h.1) (by simp [sumS]) fun s k => ?_
  have := hR s (k1.trans k)
  rw [coversX, hok, hok', hmk] at this
  exact this

theorem impl_TrailCovers {n m : Nat} {es es' : List Value} {v : Value} {x y : Tr} {ms : List Mk} (h : RT n (Av.get w0 σ) es x) (h' : RT m (Av.get w0 σ) es' y) (hv : RSl 2 RMk (Av.get w0 σ) v ms) (hb : cntT n x ≤ 1000000000000) (hb' : cntT m y ≤ 1000000000000) {R : Value → Vw → Prop}
    (hR : ∀ s, Keeps σ s → R (.bool (coversX n m x y ms)) s) : AC Tryz.prog w0 n_impl_TrailCovers [.agg ⟨es⟩, .agg ⟨es'⟩, v] σ R := by
  have h0 := h
  have h0' := h'
  obtain ⟨e0, e1, e2, e3, e4, rfl, _, hpv⟩ := RT.five h
  obtain ⟨e0', e1', e2', e3', e4', rfl, _, hpv'⟩ := RT.five h'
  refine ac_impl_TrailCovers ?_
  unfold vc_impl_TrailCovers
  rw [hpv]
  simp only [cellOf_agg, List.getD_cons_zero, List.getD_cons_succ]
  intro a ha1 ha2
  have k1 : Keeps σ (σ.put a ⟨t_impl_Tree, [e0, e1, e2, e3, e4], 5, (0, 0)⟩) := Keeps.put ha2
  have p1 := PT.new (ety := t_impl_Tree) (c := 5) h0 ha1 ha2
  rw [hpv']
  intro b hb1 hb2
  have k2 := Keeps.put (r := ⟨t_impl_Tree, [e0', e1', e2', e3', e4'], 5, (0, 0)⟩) hb2
  have p2 := PT.new (ety := t_impl_Tree) (c := 5) (mono_rt _ _ _ _ _ k1.le h0') hb1 hb2
  have p1' := p1.mono k2.le
  have K2 := k1.trans k2
  generalize hs : Vw.put _ b _ = s at k2 p2 p1' K2
  clear hs
  have R0 := hR s K2
  refine PT.load p1' fun g hg => ?_
  refine impl_TreeOk hg hb (pIf_b.2 ⟨fun hok => ?_, fun hno => by rw [coversX, hno] at R0; exact R0⟩)
  refine PT.load p2 fun g' hg' => ?_
  refine impl_TreeOk hg' hb' (pIf_b.2 ⟨fun hok' => ?_, fun hno => by rw [coversX, hok, hno] at R0; exact R0⟩)
  have hvs := hv.mono K2.le fun _ _ => mono_mk K2.le
  refine impl_TrailOk hvs (pIf_b.2 ⟨fun hmk => ?_, fun hno => by rw [coversX, hok, hok', hno] at R0; exact R0⟩)
  obtain ⟨d1, x1, c1⟩ := ok_fineT hok
  obtain ⟨d2, x2, c2⟩ := ok_fineT hok'
  refine impl_covers 5 (ps := []) (nil_in (G := []) s (KeepsBut.refl _ _)) hvs (a := some x) (b := some y) (PT_of d1 p1') (PT_of d2 p2) (fun z hz => by cases hz; exact x1) (fun z hz => by cases hz; exact x2) (fun h => by cases h.1) (by simp [sumS]) fun s' k => ?_
  have := hR s' (K2.trans k)
  rw [coversX, hok, hok', hmk] at this
  exact this

end
end Go.Proofs.YtkbhjejalkbogaaGreat
