/- The laws 'TreeRead' and 'TreeList', of the functions alone. -/
import Derived.Test.YtpplljcblgnnhaaE8
set_option linter.unusedVariables false
set_option linter.unusedSimpArgs false
namespace Go.Proofs.Ytpplljcblgnnhaa
open Go Go.Av

section
variable {w0 : World} {σ : Vw}

theorem listT_len {n : Nat} {x : Tr} {ps : List ByteArray} (h : IsT n x) (hf : fitT n x) : (listT n x ps).1.length ≤ 1000000000000 := by
  unfold listT
  split
  · cases hat : atT x ps with
    | none => simp
    | some y =>
      obtain ⟨h1, h2⟩ := at_all ps h (fit_all hf) hat
      simp only
      split
      · obtain _ | n := n
        · obtain ⟨_, _, h1⟩ := h1; exact h1.elim
        · exact h2.1.1
      · simp
  · simp

theorem sz_all : ∀ {n : Nat} {x : Tr} {b : Nat}, szT n x ≤ b → AllT (fun x => (namesOf x).length ≤ b) n x
  | 0, _, _, _ => trivial
  | n + 1, .mk d m t ns ks, b, h => by
    simp only [szT] at h
    refine ⟨by show ns.length ≤ b; omega, fun k hk => sz_all ?_⟩
    have := sumBy_mem (f := szT n) (show k ∈ ks from hk)
    omega
theorem listT_len2 {n : Nat} {x : Tr} {ps : List ByteArray} {b : Nat} (h : IsT n x) (hf : szT n x ≤ b) : (listT n x ps).1.length ≤ b := by
  unfold listT
  split
  · cases hat : atT x ps with
    | none => simp
    | some y =>
      obtain ⟨h1, h2⟩ := at_all ps h (sz_all hf) hat
      simp only
      split
      · obtain _ | n := n
        · obtain ⟨_, _, h1⟩ := h1; exact h1.elim
        · exact h2.1
      · simp
  · simp

/-- A list of texts, empty, in a row of our own. -/
theorem strs_new {b : Nat} (hb : w0.heap.size ≤ b) {ety : Nat} : OStrs w0 (σ.put b ⟨ety, [], 0, (0, 0)⟩) [b] (.slice (some ⟨b, 0, none⟩) 0 0) [] := (OAcc.new (O := OStr) hb).osl

theorem fresh_of {F F' : List Nat} {σ σ1 : Vw} (k : Keeps σ σ1) (hF : ∀ i, i ∈ F → σ i = none) (h : ∀ i, i ∈ F' → i ∈ F ∨ σ1 i = none) : ∀ i, i ∈ F' → σ i = none := fun i hi => by
  rcases h i hi with e | e
  · exact hF i e
  · cases hs : σ i with
    | none => rfl
    | some r => rw [k i r hs] at e; cases e

theorem spec_TreeList {n : Nat} {es : List Value} {v : Value} {x : Tr} {ps : List ByteArray} (h : RT n (Av.get w0 σ) es x) (hp : RSl 1 RS (Av.get w0 σ) v ps) (hb : cntT n x ≤ 1000000000000) (hf : fitT n x) {R : Value → Vw → Prop}
    (hR : ∀ v' F σ', Keeps σ σ' → OStrs w0 σ' F v' (listT n x ps).1 → (∀ b, b ∈ F → σ b = none) → R (.tuple ⟨[v', .int .i64 (listT n x ps).2]⟩) σ') : AC Try.prog w0 n_spec_TreeList [.agg ⟨es⟩, v] σ R := by
  have h0 := h
  have hlen := listT_len (ps := ps) ⟨_, _, h⟩ hf
  obtain ⟨_, _, _, _, _, rfl, _, hpv⟩ := RT.five h
  refine ac_spec_TreeList ?_
  unfold vc_spec_TreeList
  rw [hpv]
  simp only [cellOf_agg, List.getD_cons_zero, List.getD_cons_succ]
  have fin : ∀ c : Int, listT n x ps = ([], c) → pNew w0 t_string [] σ (fun n3 s4 => R (.tuple (⟨[.slice (some (Addr.mk n3 0 none)) 0 0, .int .i64 c]⟩)) s4) := fun c hc => by
    rw [hc] at hR
    exact fun b h1 h2 => hR _ [b] _ (Keeps.put h2) (strs_new h1) fun i hi => by rw [List.mem_singleton.1 hi]; exact h2
  refine spec_TreeOk h0 hb ?_
  rw [pUn_not, pIf_b]
  refine ⟨fun hn => fin 1 (by simp at hn; simp [listT, hn]), fun hn => ?_⟩
  have hok : treeOk n x = true := by simpa using hn
  have hwf : wfT n x := by simp only [treeOk, Bool.and_eq_true] at hok; exact sound_wf n x 0 hok.2.1
  refine spec_At ps h0 hwf hp fun es' he' => ?_
  rw [pExtract_s rfl, pExtract_s rfl]
  obtain ⟨u, w, rfl, _, _, hs, _, hpv'⟩ := RT.cells he'
  rw [hpv', pUn_not, pIf_b]
  cases hat : atT x ps with
  | none => exact ⟨fun _ => fin 3 (by simp [listT, hok, hat]), fun h => by simp at h⟩
  | some y =>
    rw [hat] at hs
    refine ⟨fun h => by simp at h, fun _ => ?_⟩
    simp only [cellOf_agg, List.getD_cons_zero, List.getD_cons_succ, Option.getD_some] at hs ⊢
    rw [pUn_not, pIf_b]
    refine ⟨fun hd => fin 4 (by simp at hd; simp [listT, hok, hat, hd]), fun hd => ?_⟩
    have e : listT n x ps = (namesOf y, 0) := by simp at hd; simp [listT, hok, hat, hd]
    rw [e] at hR hlen
    intro b h1 h2
    refine (OAcc.new (w0 := w0) (σ := σ) (ety := t_string) (n := 1) (O := OStr) h1).all (ok_str w0) hs (Keeps.put h2).le (fun es y hy => ⟨rfl, hy⟩) (by simpa using hlen) (by omega) fun v' F' σ' k1 o1 f1 => ?_
    have hbn : ∀ i, i ∈ [b] → σ i = none := fun i hi => by rw [List.mem_singleton.1 hi]; exact h2
    exact hR v' F' σ' (k1.old (Keeps.put h2) hbn) (by simpa using o1.osl) (fresh_of (Keeps.put h2) hbn f1)

theorem impl_TreeList {n : Nat} {es : List Value} {v : Value} {x : Tr} {ps : List ByteArray} (h : RT n (Av.get w0 σ) es x) (hp : RSl 1 RS (Av.get w0 σ) v ps) (hb : cntT n x ≤ 1000000000000) (hf : fitT n x) {R : Value → Vw → Prop}
    (hR : ∀ v' F σ', Keeps σ σ' → OStrs w0 σ' F v' (listT n x ps).1 → (∀ b, b ∈ F → σ b = none) → R (.tuple ⟨[v', .int .i64 (listT n x ps).2]⟩) σ') : AC Try.prog w0 n_impl_TreeList [.agg ⟨es⟩, v] σ R := by
  have h0 := h
  have hlen := listT_len (ps := ps) ⟨_, _, h⟩ hf
  obtain ⟨e0, e1, e2, e3, e4, rfl, _, hpv⟩ := RT.five h
  refine ac_impl_TreeList ?_
  unfold vc_impl_TreeList
  rw [hpv]
  simp only [cellOf_agg, List.getD_cons_zero, List.getD_cons_succ]
  intro b h1 h2
  have k1 : Keeps σ (σ.put b ⟨t_impl_Tree, [e0, e1, e2, e3, e4], 5, (0, 0)⟩) := Keeps.put h2
  have hq := PT.new (ety := t_impl_Tree) (c := 5) h0 h1 h2
  generalize hs1 : σ.put b ⟨t_impl_Tree, [e0, e1, e2, e3, e4], 5, (0, 0)⟩ = s1 at k1 hq
  have back : ∀ i, s1 i = none → σ i = none := fun i hi => by
    cases hs : σ i with
    | none => rfl
    | some r => rw [k1 i r hs] at hi; cases hi
  have fin : ∀ c : Int, listT n x ps = ([], c) → pNew w0 t_string [] s1 (fun n3 s4 => R (.tuple (⟨[.slice (some (Addr.mk n3 0 none)) 0 0, .int .i64 c]⟩)) s4) := fun c hc => by
    rw [hc] at hR
    exact fun b' h1 h2 => hR _ [b'] _ (k1.trans (Keeps.put h2)) (strs_new h1) fun i hi => by rw [List.mem_singleton.1 hi]; exact back _ h2
  refine PT.load hq fun g hg => ?_
  refine impl_TreeOk hg hb ?_
  rw [pUn_not, pIf_b]
  refine ⟨fun hn => fin 1 (by simp at hn; simp [listT, hn]), fun hn => ?_⟩
  have hok : treeOk n x = true := by simpa using hn
  have hwf : wfT n x := by simp only [treeOk, Bool.and_eq_true] at hok; exact sound_wf n x 0 hok.2.1
  obtain _ | n := n
  · exact h0.elim
  refine impl_at hq hwf (hp.mono k1.le fun _ _ h => h) fun q hq' => ?_
  cases hat : atT x ps with
  | none =>
    rw [hat] at hq'
    obtain rfl : q = .pointer none := hq'
    rw [pBin_nil ptr_tree, pIf_b]
    exact ⟨fun _ => fin 3 (by simp [listT, hok, hat]), fun h => by simp at h⟩
  | some y =>
    rw [hat] at hq'
    have hq2 : PT (n + 1) _ q y := hq'
    obtain ⟨aq, esq, rfl, _⟩ := id hq2
    rw [pBin_nil ptr_tree, pIf_b]
    refine ⟨fun h => by simp at h, fun _ => ?_⟩
    refine hq2.ld 0 (by omega) fun es g he hg => ?_
    obtain ⟨u, w, rfl, _, _, _, _, _⟩ := RT.cells he
    simp only [List.getElem?_cons_zero, List.getElem?_cons_succ, Option.some.injEq] at hg
    rw [← hg, pUn_not, pIf_b]
    refine ⟨fun hd => fin 4 (by simp at hd; simp [listT, hok, hat, hd]), fun hd => ?_⟩
    have e : listT (n + 1) x ps = (namesOf y, 0) := by simp at hd; simp [listT, hok, hat, hd]
    rw [e] at hR hlen
    intro b' h1' h2'
    have k2 := Keeps.put (r := ⟨t_string, [], 0, (0, 0)⟩) h2'
    refine (hq2.mono k2.le).ld 3 (by omega) fun es g2 he hg2 => ?_
    obtain ⟨u, w, rfl, _, _, hs, _, _⟩ := RT.cells he
    simp only [List.getElem?_cons_zero, List.getElem?_cons_succ, Option.some.injEq] at hg2
    rw [← hg2]
    refine (OAcc.new (w0 := w0) (σ := s1) (ety := t_string) (n := 1) (O := OStr) h1').all (ok_str w0) hs (Le.refl _) (fun es y hy => ⟨rfl, hy⟩) (by simpa using hlen) (by omega) fun v' F' σ' k3 o1 f1 => ?_
    have hbn : ∀ i, i ∈ [b'] → s1 i = none := fun i hi => by rw [List.mem_singleton.1 hi]; exact h2'
    exact hR v' F' σ' (k1.trans (k3.old k2 hbn)) (by simpa using o1.osl) fun i hi => back i (fresh_of k2 hbn f1 i hi)

theorem law_TreeRead {n : Nat} {es : List Value} {v : Value} {x : Tr} {ps : List ByteArray} {a c : Int} (h : RT n (Av.get w0 σ) es x) (hp : RSl 1 RS (Av.get w0 σ) v ps) (ha : -9223372036854775808 ≤ a ∧ a ≤ 9223372036854775807) (hc : -9223372036854775808 ≤ c ∧ c ≤ 9223372036854775807) {R : Value → Vw → Prop} (hR : ∀ σ', R (.bool true) σ') :
    AC Try.prog w0 n_laws_FnExactTreeRead [.agg ⟨es⟩, v, .int .i64 a, .int .i64 c] σ R := by
  have h0 := h
  obtain ⟨e0, e1, e2, e3, e4, rfl, _, hpv⟩ := RT.five h
  refine ac_laws_FnExactTreeRead ?_
  unfold vc_laws_FnExactTreeRead
  rw [hpv]
  simp only [cellOf_agg, List.getD_cons_zero, List.getD_cons_succ]
  refine szTree n h0 (by omega) ?_
  rw [pBin_lt, pIf_d]
  refine ⟨fun _ => hR _, fun hb => ?_⟩
  rw [Av.left_neg] at hb
  rw [Av.left_in (by omega)]
  refine szStringS hp (by omega) ?_
  rw [pBin_lt, pIf_d]
  refine ⟨fun _ => hR _, fun hb2 => ?_⟩
  have hsz : szT n x ≤ 1000000000000 := by omega
  have hfit := fit_of n x hsz
  have hcnt : cntT n x ≤ 1000000000000 := Nat.le_trans (cnt_le n x) hsz
  have hpl : ps.length ≤ 1000000000000 := by
    have e : left (1048576 - (szT n x : Int)) (ps.length + sumS ps) = Av.left (1048576 - (szT n x : Int)) (ps.length + sumS ps) := rfl
    rw [e, Av.left_neg] at hb2; omega
  refine toTree n h0 hfit fun es1 F1 s1 k1 o1 f1 => ?_
  refine toStringS' (hp.mono k1.le fun _ _ h => h) hpl fun v1 G1 s2 k2 p1 g1 => ?_
  refine spec_TreeRead (mono_rt n _ _ _ _ k2.le ((ok_rt w0 n).rel _ _ _ _ o1)) (p1.rel (ok_str w0)) hcnt ha hc ?_
  rw [pExtract_s rfl, pExtract_s rfl]
  have k12 := k1.trans k2
  refine toTree n (mono_rt n _ _ _ _ k12.le h0) hfit fun es2 F2 s3 k3 o2 f2 => ?_
  have r2 := (ok_rt w0 n).rel _ _ _ _ o2
  obtain ⟨a2, b2, c2, d2, e2, rfl, q2, hp2⟩ := RT.five r2
  rw [hp2]
  simp only [cellOf_agg, List.getD_cons_zero, List.getD_cons_succ]
  refine toStringS' (hp.mono (k12.trans k3).le fun _ _ h => h) hpl fun v2 G2 s4 k4 p2 g2 => ?_
  refine impl_TreeRead (mono_rt n _ _ _ _ k4.le r2) (p2.rel (ok_str w0)) hcnt ha hc fun s5 k5 => ?_
  rw [pExtract_s rfl, pExtract_s rfl, pBin_sne, pIf_d]
  refine ⟨fun h => absurd rfl h, fun _ => ?_⟩
  rw [pBin_ne, pIf_d]
  refine ⟨fun h => absurd rfl h, fun _ => ?_⟩
  have K5 := ((k12.trans k3).trans k4).trans k5
  refine toTree n (mono_rt n _ _ _ _ K5.le h0) hfit fun es3 F3 s6 k6 o3 f3 => ?_
  refine ⟨k6.ext, ?_⟩
  refine eqTree n (mono_rt n _ _ _ _ ((k4.trans k5).trans k6).le r2) ((ok_rt w0 n).rel _ _ _ _ o3) ?_
  rw [pUn_not, pIf_b]
  refine ⟨fun h => by simp at h, fun _ => ?_⟩
  refine toStringS' (hp.mono (K5.trans k6).le fun _ _ h => h) hpl fun v3 G3 s7 k7 p3 g3 => ?_
  refine eqStringS ((p2.rel (ok_str w0)).mono ((k5.trans k6).trans k7).le fun _ _ h => h) (p3.rel (ok_str w0)) ?_
  rw [pUn_not, pIf_b]
  exact ⟨fun h => by simp at h, fun _ => hR _⟩

theorem law_TreeList {n : Nat} {es : List Value} {v : Value} {x : Tr} {ps : List ByteArray} (h : RT n (Av.get w0 σ) es x) (hp : RSl 1 RS (Av.get w0 σ) v ps) {R : Value → Vw → Prop} (hR : ∀ σ', R (.bool true) σ') :
    AC Try.prog w0 n_laws_FnExactTreeList [.agg ⟨es⟩, v] σ R := by
  have h0 := h
  obtain ⟨e0, e1, e2, e3, e4, rfl, _, hpv⟩ := RT.five h
  refine ac_laws_FnExactTreeList ?_
  unfold vc_laws_FnExactTreeList
  rw [hpv]
  simp only [cellOf_agg, List.getD_cons_zero, List.getD_cons_succ]
  refine szTree n h0 (by omega) ?_
  rw [pBin_lt, pIf_d]
  refine ⟨fun _ => hR _, fun hb => ?_⟩
  rw [Av.left_neg] at hb
  rw [Av.left_in (by omega)]
  refine szStringS hp (by omega) ?_
  rw [pBin_lt, pIf_d]
  refine ⟨fun _ => hR _, fun hb2 => ?_⟩
  have hsz : szT n x ≤ 1048576 := by omega
  have hfit := fit_of n x (by omega)
  have hcnt : cntT n x ≤ 1000000000000 := Nat.le_trans (cnt_le n x) (by omega)
  have hcT := cT_le n x
  have hpl : ps.length ≤ 1048576 := by
    have e : left (1048576 - (szT n x : Int)) (ps.length + sumS ps) = Av.left (1048576 - (szT n x : Int)) (ps.length + sumS ps) := rfl
    rw [e, Av.left_neg] at hb2; omega
  refine toTree n h0 hfit fun es1 F1 s1 k1 o1 f1 => ?_
  refine toStringS' (hp.mono k1.le fun _ _ h => h) (by omega) fun v1 G1 s2 k2 p1 g1 => ?_
  refine spec_TreeList (mono_rt n _ _ _ _ k2.le ((ok_rt w0 n).rel _ _ _ _ o1)) (p1.rel (ok_str w0)) hcnt hfit fun wv Fw s3 k3 ow fw => ?_
  rw [pExtract_s rfl, pExtract_s rfl]
  have hw := ow.rel (ok_str w0)
  have K3 := (k1.trans k2).trans k3
  refine toTree n (mono_rt n _ _ _ _ K3.le h0) hfit fun es2 F2 s4 k4 o2 f2 => ?_
  have r2 := (ok_rt w0 n).rel _ _ _ _ o2
  obtain ⟨a2, b2, c2, d2, e2, rfl, q2, hp2⟩ := RT.five r2
  rw [hp2]
  simp only [cellOf_agg, List.getD_cons_zero, List.getD_cons_succ]
  refine toStringS' (hp.mono (K3.trans k4).le fun _ _ h => h) (by omega) fun v2 G2 s5 k5 p2 g2 => ?_
  refine impl_TreeList (mono_rt n _ _ _ _ k5.le r2) (p2.rel (ok_str w0)) hcnt hfit fun gv Fg s6 k6 og fg => ?_
  rw [pExtract_s rfl, pExtract_s rfl]
  have k36 := (k4.trans k5).trans k6
  refine eqStringS (og.rel (ok_str w0)) (hw.mono k36.le fun _ _ h => h) ?_
  rw [pUn_not, pIf_b]
  refine ⟨fun h => by simp at h, fun _ => ?_⟩
  rw [pBin_ne, pIf_d]
  refine ⟨fun h => absurd rfl h, fun _ => ?_⟩
  have K6 := K3.trans k36
  refine toTree n (mono_rt n _ _ _ _ K6.le h0) hfit fun es3 F3 s7 k7 o3 f3 => ?_
  refine ⟨k7.ext, ?_⟩
  refine eqTree n (mono_rt n _ _ _ _ ((k5.trans k6).trans k7).le r2) ((ok_rt w0 n).rel _ _ _ _ o3) ?_
  rw [pUn_not, pIf_b]
  refine ⟨fun h => by simp at h, fun _ => ?_⟩
  refine toStringS' (hp.mono (K6.trans k7).le fun _ _ h => h) (by omega) fun v3 G3 s8 k8 p3 g3 => ?_
  refine eqStringS ((p2.rel (ok_str w0)).mono ((k6.trans k7).trans k8).le fun _ _ h => h) (p3.rel (ok_str w0)) ?_
  rw [pUn_not, pIf_b]
  refine ⟨fun h => by simp at h, fun _ => ?_⟩
  -- the marks of the arguments
  have o28 := (ok_rt w0 n).frame _ s8 _ _ _ o2 ((((k5.trans k6).trans k7).trans k8).but_at fun b hb => ((ok_rt w0 n).dom _ _ _ _ o2 b hb).2)
  refine markTree (k := 1) o28 (by omega) fun s9 k9 _ => ?_
  have p28 := p2.frame (ok_str w0) (((k6.trans k7).trans k8).but_at fun b hb => (p2.dom (ok_str w0) b hb).2)
  have p29 := p28.frame (ok_str w0) (k9.at (fun b hb => (p28.dom (ok_str w0) b hb).2) fun b hb hb' => ((ok_rt w0 n).dom _ _ _ _ o2 b hb').2 (g2 b hb))
  refine markStringS p29 (by omega) fun s10 k10 _ => ?_
  rw [pBin_lt, pIf_d]
  refine ⟨fun h => by omega, fun _ => ?_⟩
  have k38 := (k36.trans k7).trans k8
  have old3 : ∀ {s : Vw} {i : Nat}, Keeps s3 s → s i = none → s3 i = none := fun {s i} hk hi => by
    cases hs : s3 i with
    | none => rfl
    | some r => rw [hk i r hs] at hi; cases hi
  have kw10 : Keeps s3 s10 := k10.old (k9.old k38 f2) fun b hb => old3 k4 (g2 b hb)
  have g8 := og.frame (ok_str w0) ((k7.trans k8).but_at fun b hb => (og.dom (ok_str w0) b hb).2)
  have g9 := g8.frame (ok_str w0) (k9.at (fun b hb => (g8.dom (ok_str w0) b hb).2) fun b hb hb' => by
    have d := ((ok_rt w0 n).dom _ _ _ _ o2 b hb').2
    cases hs : s4 b with
    | none => exact d hs
    | some r => have := fg b hb; rw [k5 b r hs] at this; cases this)
  have g10 := g9.frame (ok_str w0) (k10.at (fun b hb => (g9.dom (ok_str w0) b hb).2) fun b hb hb' => (p2.dom (ok_str w0) b hb').2 (fg b hb))
  refine eqStringS (g10.rel (ok_str w0)) (hw.mono kw10.le fun _ _ h => h) ?_
  rw [pUn_not, pIf_b]
  refine ⟨fun h => by simp at h, fun _ => ?_⟩
  rw [pBin_ne, pIf_d]
  refine ⟨fun h => absurd rfl h, fun _ => ?_⟩
  have hll : (listT n x ps).1.length ≤ 100000000000 := by
    have hs : fitT n x := hfit
    have := listT_len2 (ps := ps) ⟨_, _, h0⟩ hsz
    omega
  refine markStringS (k := 1) g10 (by omega) fun s11 k11 g11 => ?_
  refine heldStringS (k := 1) (g11.rel (ok_str w0)) (by omega) fun s12 k12 => ?_
  rw [pBin_lt, pIf_d]
  refine ⟨fun h => by omega, fun _ => ?_⟩
  rw [pBin_ne, pIf_d]
  refine ⟨fun h => absurd rfl h, fun _ => ?_⟩
  have g12 := g11.frame (ok_str w0) (k12.but_at fun b hb => (g11.dom (ok_str w0) b hb).2)
  have kw12 : Keeps s3 s12 := (k11.old kw10 fun b hb => old3 (k4.trans k5) (fg b hb)).trans k12
  have K12 : Keeps σ s12 := K3.trans kw12
  refine toTree n (mono_rt n _ _ _ _ K12.le h0) hfit fun es4 F4 s13 k13 o4 f4 => ?_
  refine toStringS' (hp.mono (K12.trans k13).le fun _ _ h => h) (by omega) fun v4 G4 s14 k14 p4 g4 => ?_
  refine impl_TreeList (mono_rt n _ _ _ _ k14.le ((ok_rt w0 n).rel _ _ _ _ o4)) (p4.rel (ok_str w0)) hcnt hfit fun hv Fh s15 k15 oh fh => ?_
  rw [pExtract_s rfl, pExtract_s rfl]
  have k1215 := (k13.trans k14).trans k15
  refine eqStringS (oh.rel (ok_str w0)) (hw.mono (kw12.trans k1215).le fun _ _ h => h) ?_
  rw [pUn_not, pIf_b]
  refine ⟨fun h => by simp at h, fun _ => ?_⟩
  rw [pBin_ne, pIf_d]
  refine ⟨fun h => absurd rfl h, fun _ => ?_⟩
  have g15 := g12.frame (ok_str w0) (k1215.but_at fun b hb => (g12.dom (ok_str w0) b hb).2)
  refine heldStringS (k := 1) (g15.rel (ok_str w0)) (by omega) fun s16 k16 => ?_
  rw [pBin_lt, pIf_d]
  refine ⟨fun h => by omega, fun _ => ?_⟩
  rw [pBin_ne, pIf_d]
  exact ⟨fun h => absurd rfl h, fun _ => hR _⟩
end
end Go.Proofs.Ytpplljcblgnnhaa
