/- The law FnTrailCost holds: it returns true, and the input reads as it did. No condition. This is part 6 of 6 of its proof. -/
import Derived.Test.YtkbhjejalkbogaaGreatXFnTrailCost5
import Derived.Test.YtkbhjejalkbogaaGreatRows
import Derived.WalkKit
import Derived.ProofKit
import Derived.OpenShut
import Derived.ShutString
import Derived.ChangeOld
import Derived.Below
import Derived.Carry
import Derived.SizedLaws

/- What a trail leads to, by the program's hand. -/
set_option linter.unusedVariables false
set_option linter.unusedSimpArgs false
set_option maxRecDepth 20000
namespace Go.Proofs.YtkbhjejalkbogaaGreat
open Go Go.Av

theorem leads_take {ms : List Mk} {p : List ByteArray} {j : Nat} {x : Mk} (h : ms[j]? = some x) : leadsB (ms.take (j + 1)) p = (leadsB (ms.take j) p || within x.1 p) := by
  unfold leadsB
  rw [List.take_add_one, h, List.any_append]; simp
theorem leads_hit {ms : List Mk} {p : List ByteArray} {j : Nat} {x : Mk} (h : ms[j]? = some x) (h2 : within x.1 p = true) : leadsB ms p = true := List.any_eq_true.2 ⟨x, List.mem_of_getElem? h, h2⟩
noncomputable def lookW (n : Nat) (ms : List Mk) (ps : List ByteArray) (x y : Tr) (nm : ByteArray) : List En := if leadsB ms (ps ++ [nm]) = true then lookE n ms (ps ++ [nm]) (kidT x nm) (kidT y nm) else []
noncomputable def lookV (n : Nat) (ms : List Mk) (ps : List ByteArray) (x y : Tr) (nm : ByteArray) : Nat := if leadsB ms (ps ++ [nm]) = true then lookN n ms (ps ++ [nm]) (kidT x nm) (kidT y nm) else 0
theorem lookE_names {n : Nat} {ms : List Mk} {ps : List ByteArray} {x y : Tr} (hx : fineT (n + 1) x) (hy : fineT (n + 1) y) (hd : isDir x = isDir y) (hu : underB ms ps = false) :
    lookE (n + 1) ms ps (some x) (some y) = (if markedB ms ps = true then partE ps x y else []) ++ ((namesU (namesOf x ++ namesOf y)).map (lookW n ms ps x y)).flatten ∧
    lookN (n + 1) ms ps (some x) (some y) = 1 + sumBy (lookV n ms ps x y) (namesU (namesOf x ++ namesOf y)) := by
  simp only [lookE, lookN]
  have hu' : ¬ underB ms ps = true := by rw [hu]; simp
  rw [if_pos hd, if_pos hd, if_neg hu', if_neg hu', mrg_kids hx hy, List.map_map, sumBy_map']
  exact ⟨rfl, rfl⟩

section
variable {w0 : World} {σ : Vw}

theorem impl_leads {v v' : Value} {ms : List Mk} {p : List ByteArray} (h : RSl 2 RMk (Av.get w0 σ) v ms) (h' : RSl 1 RS (Av.get w0 σ) v' p) {R : Value → Vw → Prop} (hR : R (.bool (leadsB ms p)) σ) : AC Tryz.prog w0 n_impl_leads [v, v'] σ R := by
  refine ac_impl_leads ?_
  unfold vc_impl_leads
  have hl := h.le
  rw [h.len]
  refine loop_rule (m := ms.length) (fun m l t => ∃ j, t = σ ∧ m + j = ms.length ∧ leadsB (ms.take j) p = false ∧ l = [v', .bool false, v, .int .i64 (ms.length : Nat), .int .i64 (j : Nat)]) ?_ ⟨0, rfl, by omega, rfl, rfl⟩
  rintro m l t L ⟨j, rfl, hm, ht, rfl⟩ hL
  simp only [vget, List.getD_cons_zero, List.getD_cons_succ]
  rw [pBin_lt, pIf_d]
  refine ⟨fun hj => ?_, fun hj => ?_⟩
  · have hx := List.getElem?_eq_getElem (show j < ms.length by omega)
    generalize ms[j]'(by omega) = x at hx
    refine RSl.at h hx fun g hg => ?_
    obtain ⟨u, hu, ru⟩ := hg
    simp only [expl, List.cons.injEq, and_true] at hu
    rw [hu.1, hu.2, pVal_2 ru.one rfl]
    refine impl_begins ru h' ?_
    rw [pIf_b]
    refine ⟨fun hw => ?_, fun hw => ?_⟩
    · rw [leads_hit hx hw] at hR; exact hR
    · rw [pBin_add (by omega)]
      exact hL _ _ (m - 1) (by omega) ⟨j + 1, rfl, by omega, by rw [leads_take hx, ht, hw]; rfl, by simp⟩
  · have e : j = ms.length := by omega
    subst e
    rw [List.take_length] at ht
    rw [ht] at hR; exact hR

/-- The names one by one. -/
def VIL (w0 : World) (v p q mv out : Value) (s : Vw) (R : Value → Vw → Prop) : Prop :=
  AC Tryz.prog w0 n_impl_either [p, q] s (fun v36 s37 => pLen v36 (fun v38 => pLoop (fun l39 K40 s41 => pBin Tryz.prog 3 .lss (vget l39 8) (vget l39 7) (fun v42 => pIf v42 (pIndexAddr 1 (vget l39 6) (vget l39 8) (fun v43 => pLoad w0 1 v43 s41 (fun g44 => AC Tryz.prog w0 n_impl_below [vget l39 0, g44 0] s41 (fun v45 s46 => AC Tryz.prog w0 n_impl_leads [vget l39 3, v45] s46 (fun v47 s48 => pIf v47 (AC Tryz.prog w0 n_p_impl_Tree_kid [vget l39 1, g44 0] s48 (fun v49 s50 => AC Tryz.prog w0 n_p_impl_Tree_kid [vget l39 2, g44 0] s50 (fun v51 s52 => AC Tryz.prog w0 n_impl_look [v45, v49, v51, vget l39 3] s52 (fun v53 s54 => pExtract v53 0 (fun v55 => pExtract v53 1 (fun v56 => pAppendS w0 t_impl_Entry 5 64 (vget l39 4) v55 s54 (fun v57 s58 => pBin Tryz.prog 3 .add (vget l39 5) v56 (fun v59 => pBin Tryz.prog 3 .add (vget l39 8) (.int .i64 1) (fun v60 => K40 AX.normal [vget l39 0, vget l39 1, vget l39 2, vget l39 3, v57, v59, vget l39 6, vget l39 7, v60] s58))))))))) (pBin Tryz.prog 3 .add (vget l39 8) (.int .i64 1) (fun v61 => K40 AX.normal [vget l39 0, vget l39 1, vget l39 2, vget l39 3, vget l39 4, vget l39 5, vget l39 6, vget l39 7, v61] s48))))))) (K40 (AX.exit 1) [vget l39 0, vget l39 1, vget l39 2, vget l39 3, vget l39 4, vget l39 5, vget l39 6, vget l39 7, vget l39 8] s41))) [v, p, q, mv, out, .int .i64 1, v36, v38, .int .i64 0] s37 (fun x62 l63 s64 => match x62 with | .normal => R (.tuple (⟨[vget l63 4, vget l63 5]⟩)) s64 | .ret => False | .exit i65 => (match Nat.beq i65 1 with | true => R (.tuple (⟨[vget l63 4, vget l63 5]⟩)) s64 | false => False))))

set_option maxHeartbeats 4000000 in
theorem impl_look : ∀ (n : Nat) {σ : Vw} {v mv p q : Value} {ps : List ByteArray} {ms : List Mk} {a b : Option Tr} {R : Value → Vw → Prop}, n ≤ 5 → RSl 1 RS (Av.get w0 σ) v ps → RSl 2 RMk (Av.get w0 σ) mv ms → PO n (Av.get w0 σ) p a → PO n (Av.get w0 σ) q b → fineO n a → fineO n b →
    ¬ (a = none ∧ b = none) → ps.length + sumS ps + 6 * n ≤ 1000000 → (∀ v' G s', Keeps σ s' → OAcc w0 t_impl_Entry 5 (OEn w0) s' G v' (lookE n ms ps a b) → (∀ i, i ∈ G → σ i = none) → R (.tuple ⟨[v', .int .i64 (lookN n ms ps a b : Nat)]⟩) s') →
    AC Tryz.prog w0 n_impl_look [v, p, q, mv] σ R := by
  intro n
  induction n with
  | zero =>
    intro σ v mv p q ps ms a b R _ _ _ ha hb _ _ hne
    exfalso
    cases a with
    | some x => obtain ⟨_, _, _, _, _, h⟩ := ha; exact h
    | none => cases b with
      | some x => obtain ⟨_, _, _, _, _, h⟩ := hb; exact h
      | none => exact hne ⟨rfl, rfl⟩
  | succ n ih =>
    intro σ v mv p q ps ms a b R hn5 hv hm ha hb hfa hfb hne hps hR
    have hel := lookE_len (n + 1) ms ps a b
    have hnl := lookN_le (n + 1) ms ps a b
    refine ac_impl_look ?_
    unfold vc_impl_look cs_impl_look_1
    cases a with
    | none =>
      obtain rfl : p = .pointer none := ha
      cases b with
      | none => exact absurd ⟨rfl, rfl⟩ hne
      | some y =>
        obtain ⟨f1, f2, f3⟩ := hfb y rfl
        have hb' := hb
        obtain ⟨ad, es, rfl, _⟩ := hb'
        rw [pBin_nil ptr_tree, pIf_b]
        refine ⟨fun _ => ?_, fun h => by cases h⟩
        rw [pNil_s]
        refine PT.load hb fun g hg => ?_
        rw [pNil_s]
        refine PT.load hb fun g2 hg2 => ?_
        refine impl_fresh hv hg hn5 f1 f2 hps fun v1 G1 s1 k1 o1 q1 => ⟨k1.stay, ?_⟩
        refine impl_paths (n + 1) (mono_rt _ _ _ _ _ k1.le hg2) (by omega) ?_
        exact hR v1 G1 s1 k1 o1 q1
    | some x =>
      obtain ⟨a1, a2, a3⟩ := hfa x rfl
      have ha' := ha
      obtain ⟨ad, es, rfl, _⟩ := ha'
      rw [pBin_nil ptr_tree, pIf_b]
      refine ⟨fun h => (by cases h), fun _ => ?_⟩
      cases b with
      | none =>
        obtain rfl : q = .pointer none := hb
        rw [pBin_nil ptr_tree, pIf_b]
        refine ⟨fun _ => ?_, fun h => by cases h⟩
        refine impl_gone hv (by omega) fun v1 P s1 k1 o1 f1 => ?_
        rw [pVal_5 (OSl.one' o1) rfl rfl rfl rfl]
        simp only [cellOf_agg, List.getD_cons_zero, List.getD_cons_succ]
        intro b hb1 hb2
        refine hR _ _ _ (k1.trans (Keeps.put hb2)) (OAcc.single (ok_en w0) (ety := t_impl_Entry) hb1 hb2 (gone_own o1)) fun i hi => ?_
        rcases List.mem_cons.1 hi with rfl | hi
        · exact none_old k1 hb2
        · exact f1 i hi
      | some y =>
        obtain ⟨b1, b2, b3⟩ := hfb y rfl
        have hb' := hb
        obtain ⟨bd, es', rfl, _⟩ := hb'
        have hx : fineT (n + 1) x := ⟨a1, a2, a3⟩
        have hy : fineT (n + 1) y := ⟨b1, b2, b3⟩
        have hb0 := hb
        have ha0 := ha
        have ha : PT (n + 1) (Av.get w0 σ) (.pointer (some ad)) x := ha
        have hb : PT (n + 1) (Av.get w0 σ) (.pointer (some bd)) y := hb
        rw [pBin_nil ptr_tree, pIf_b]
        refine ⟨fun h => (by cases h), fun _ => ?_⟩
        refine PT.ld ha 0 (by omega) fun es1 g1 he1 hg1 => ?_
        obtain ⟨u1, w1, rfl, _⟩ := he1.cells
        simp only [List.getElem?_cons_zero, Option.some.injEq] at hg1
        refine PT.ld hb 0 (by omega) fun es2 g2 he2 hg2 => ?_
        obtain ⟨u2, w2, rfl, _⟩ := he2.cells
        simp only [List.getElem?_cons_zero, Option.some.injEq] at hg2
        have eb : ∀ K : Value → Prop, pBin Tryz.prog 4 .neq (.bool (isDir x)) (.bool (isDir y)) K ↔ K (.bool !(isDir x == isDir y)) := fun K => pBin_b (by kernel_rfl) rfl
        rw [← hg1, ← hg2, eb, pIf_b]
        have wlk : ∀ {s : Vw} {K : Value → Vw → Prop}, Keeps σ s → (∀ v' G s', Keeps s s' → OAcc w0 t_impl_Entry 5 (OEn w0) s' G v' (walkE (n + 1) ps (some x) (some y)) → (∀ i, i ∈ G → s i = none) → K v' s') → AC Tryz.prog w0 n_impl_walk [v, .pointer (some ad), .pointer (some bd)] s K := fun {s K} k hK =>
          impl_walk (n + 1) (a := some x) (b := some y) hn5 (hv.mono k.le fun _ _ h => h) (ha.mono k.le) (hb.mono k.le) hfa hfb (fun h => by cases h.1) hps hK
        refine ⟨fun hd => ?_, fun hd => ?_⟩
        · have hd' : ¬ isDir x = isDir y := by simpa using hd
          rw [pNil_s]
          refine PT.load hb fun g hg => ?_
          refine wlk (Keeps.refl _) fun v1 G1 s1 k1 o1 q1 => ⟨k1.stay, ?_⟩
          refine impl_paths (n + 1) (mono_rt _ _ _ _ _ k1.le hg) (by omega) ?_
          have e1 : lookE (n + 1) ms ps (some x) (some y) = walkE (n + 1) ps (some x) (some y) := by simp only [lookE, walkE]; rw [if_neg hd', if_neg hd']
          have e2 : lookN (n + 1) ms ps (some x) (some y) = cntT (n + 1) y + 1 := by simp only [lookN]; rw [if_neg hd']
          have := hR v1 G1 s1 k1 (by rw [e1]; exact o1) q1
          rw [e2] at this; exact this
        have hd' : isDir x = isDir y := by simpa using hd
        refine impl_under hm hv ?_
        rw [pIf_b]
        refine ⟨fun hu => ?_, fun hu => ?_⟩
        · refine wlk (Keeps.refl _) fun v1 G1 s1 k1 o1 q1 => ?_
          refine impl_both (n + 1) (a := some x) (b := some y) (ha.mono k1.le) (hb.mono k1.le) hfa hfb fun s2 k2 => ?_
          have e1 : lookE (n + 1) ms ps (some x) (some y) = walkE (n + 1) ps (some x) (some y) := by simp only [lookE]; rw [if_pos hd', if_pos hu]
          have e2 : lookN (n + 1) ms ps (some x) (some y) = unT (n + 1) (some x) (some y) := by simp only [lookN]; rw [if_pos hd', if_pos hu]
          have := hR v1 G1 s2 (k1.trans k2) (by rw [e1]; exact o1.frame (ok_en w0) (k2.but_at fun i hi => (o1.dom (ok_en w0) i hi).2)) q1
          rw [e2] at this; exact this
        obtain ⟨eE, eN⟩ := lookE_names (ms := ms) (ps := ps) hx hy hd' hu
        rw [eE, eN] at hR
        rw [eE] at hel
        rw [eN] at hnl
        simp only [cntO] at hel hnl
        have hl1 := fine_len hx
        have hl2 := fine_len hy
        have hLl := names_both hx hy
        have hLm : ∀ z, z ∈ namesU (namesOf x ++ namesOf y) → z ∈ namesOf x ∨ z ∈ namesOf y := fun z hz => by rw [namesU_mem, List.mem_append] at hz; exact hz
        clear eE eN
        -- the names one by one
        have LOOP : ∀ (s : Vw) (ov : Value) (G1 : List Nat) (pe : List En), pe = (if markedB ms ps = true then partE ps x y else []) → Keeps σ s → OAcc w0 t_impl_Entry 5 (OEn w0) s G1 ov pe → (∀ i, i ∈ G1 → σ i = none) → VIL w0 v (.pointer (some ad)) (.pointer (some bd)) mv ov s R := by
          intro s ov G1 pe hpe k0 o1 f1
          rw [← hpe] at hR hel
          unfold VIL
          refine impl_either (ha.mono k0.le) (hb.mono k0.le) (by omega) fun nv F s2 k2 on fn => ?_
          rw [(on.rel (ok_str w0)).len]
          generalize namesU (namesOf x ++ namesOf y) = L at *
          generalize hW : lookW n ms ps x y = W at hR hel
          generalize hV : lookV n ms ps x y = V at hR hnl
          have o1' := o1.frame (ok_en w0) (k2.but_at fun i hi => (o1.dom (ok_en w0) i hi).2)
          refine loop_rule (m := L.length) (fun c l st => ∃ (j : Nat) (G : List Nat) (acc : Value), c + j = L.length ∧ Keeps σ st ∧ (∀ i, i ∈ G → σ i = none) ∧ OAcc w0 t_impl_Entry 5 (OEn w0) st G acc (pe ++ ((L.take j).map W).flatten) ∧
              OStrs w0 st F nv L ∧ (∀ i, i ∈ F → i ∉ G) ∧ l = [v, .pointer (some ad), .pointer (some bd), mv, acc, .int .i64 ((1 + sumBy V (L.take j) : Nat) : Int), nv, .int .i64 (L.length : Nat), .int .i64 (j : Nat)]) ?_
            ⟨0, G1, ov, by omega, k0.trans k2, f1, by simpa using o1', on, fun i hi hi' => (o1.dom (ok_en w0) i hi').2 (fn i hi), by simp [sumBy]⟩
          rintro c l st L' ⟨j, G, acc, hcj, ks0, hG, ho, hon, hFG, rfl⟩ hL'
          simp only [vget, List.getD_cons_zero, List.getD_cons_succ]
          rw [pBin_lt, pIf_d]
          refine ⟨fun hj => ?_, fun hj => ?_⟩
          · have hnm := List.getElem?_eq_getElem (show j < L.length by omega)
            generalize L[j]'(by omega) = nm at hnm
            have hmem := hLm nm (List.mem_of_getElem? hnm)
            have hsz : nm.size ≤ 5 := by
              rcases hmem with h | h
              · exact name_short a1 h
              · exact name_short b1 h
            refine RSl.at1 (hon.rel (ok_str w0)) hnm fun g hg hgs => ?_
            rw [hg]
            refine below_path (hv.mono ks0.le fun _ _ h => h) (by omega) (by omega) fun pv PF s3 k3 op fp => ?_
            have K3 := ks0.trans k3
            have ho3 := ho.frame (ok_en w0) (k3.but_at fun i hi => (ho.dom (ok_en w0) i hi).2)
            have hon3 := hon.frame (ok_str w0) (k3.but_at fun i hi => (hon.dom (ok_str w0) i hi).2)
            have hst := sumBy_take (f := V) hnm
            have hsl := sumBy_le (f := V) (xs := L) (j + 1)
            have hft := flat_take (f := W) hnm
            refine impl_leads (hm.mono K3.le fun _ _ => mono_mk K3.le) (op.rel (ok_str w0)) ?_
            rw [pIf_b]
            refine ⟨fun hld => ?_, fun hld => ?_⟩
            · refine impl_kid (ha.mono K3.le) (short_wf _ _ a1) fun qa hqa => ?_
              refine impl_kid (hb.mono K3.le) (short_wf _ _ b1) fun qb hqb => ?_
              have hne' : ¬ (kidT x nm = none ∧ kidT y nm = none) := fun h => by
                rcases hmem with hm | hm
                · exact kid_there a1 hm h.1
                · exact kid_there b1 hm h.2
              have hW1 : W nm = lookE n ms (ps ++ [nm]) (kidT x nm) (kidT y nm) := by rw [← hW, lookW, if_pos hld]
              have hV1 : V nm = lookN n ms (ps ++ [nm]) (kidT x nm) (kidT y nm) := by rw [← hV, lookV, if_pos hld]
              refine ih (by omega) (op.rel (ok_str w0)) (hm.mono K3.le fun _ _ => mono_mk K3.le) hqa hqb (kid_fine hfa nm) (kid_fine hfb nm) hne' (by rw [List.length_append, sumS_snoc]; simp only [List.length_cons, List.length_nil]; omega) fun v4 G4 s4 k4 o4 f4 => ?_
              rw [← hW1] at o4
              rw [← hV1]
              rw [pExtract_s rfl, pExtract_s rfl]
              have ho4 := ho3.frame (ok_en w0) (k4.but_at fun i hi => (ho3.dom (ok_en w0) i hi).2)
              have hon4 := hon3.frame (ok_str w0) (k4.but_at fun i hi => (hon3.dom (ok_str w0) i hi).2)
              have hlen : (pe ++ ((L.take j).map W).flatten).length + (W nm).length ≤ 900000 := by
                have e2 : ((L.map W).flatten).length = (((L.take (j + 1)).map W).flatten).length + (((L.drop (j + 1)).map W).flatten).length := by
                  rw [← List.length_append, ← List.flatten_append, ← List.map_append, List.take_append_drop]
                rw [hft, List.length_append] at e2
                rw [List.length_append] at hel ⊢
                omega
              have K4 := K3.trans k4
              refine ho4.allOwn (ok_en w0) o4.osl (fun i hi hi' => (ho3.dom (ok_en w0) i hi').2 (f4 i hi)) (by omega) (by omega) fun v5 G5 s5 k5 o5 f5 => ?_
              rw [pBin_add (by omega), pBin_add (by omega)]
              refine hL' _ _ (c - 1) (by omega) ⟨j + 1, G5, v5, by omega, k5.old K4 hG, fun i hi => ?_, ?_, hon4.frame (ok_str w0) (k5.at (fun i hi => (hon4.dom (ok_str w0) i hi).2) hFG), fun i hi hi' => ?_, by rw [hst]; simp; omega⟩
              · rcases f5 i hi with h | h | h
                · exact hG i h
                · exact none_old K3 (f4 i h)
                · exact none_old K4 h
              · rw [hft, ← List.append_assoc]; exact o5
              · rcases f5 i hi' with h | h | h
                · exact hFG i hi h
                · exact (hon3.dom (ok_str w0) i hi).2 (f4 i h)
                · exact (hon4.dom (ok_str w0) i hi).2 h
            · have hW1 : W nm = [] := by rw [← hW, lookW, if_neg (by rw [hld]; simp)]
              have hV1 : V nm = 0 := by rw [← hV, lookV, if_neg (by rw [hld]; simp)]
              rw [pBin_add (by omega)]
              refine hL' _ _ (c - 1) (by omega) ⟨j + 1, G, acc, by omega, K3, hG, ?_, hon3, hFG, by rw [hst, hV1]; simp⟩
              rw [hft, hW1, List.append_nil]; exact ho3
          · have e : j = L.length := by omega
            subst e
            rw [List.take_length] at ho
            have := hR acc G st ks0 ho hG
            rw [List.take_length]
            exact this
        intro b0 hb1 hb2
        have kb : Keeps σ (σ.put b0 ⟨t_impl_Entry, [], 0, (0, 0)⟩) := Keeps.put hb2
        have o0 : OAcc w0 t_impl_Entry 5 (OEn w0) (σ.put b0 ⟨t_impl_Entry, [], 0, (0, 0)⟩) [b0] (.slice (some ⟨b0, 0, none⟩) 0 0) [] := OAcc.new hb1
        have f0 : ∀ i, i ∈ [b0] → σ i = none := fun i hi => by rw [List.mem_singleton.1 hi]; exact hb2
        refine impl_marked (hm.mono kb.le fun _ _ => mono_mk kb.le) (hv.mono kb.le fun _ _ h => h) fun s1 k1 => ?_
        have K1 := kb.trans k1
        rw [pIf_b]
        refine ⟨fun hmk => ?_, fun hmk => ?_⟩
        · rw [pNil_s]
          refine PT.load (ha.mono K1.le) fun g3 hg3 => ?_
          rw [pNil_s]
          refine PT.load (hb.mono K1.le) fun g4 hg4 => ?_
          refine impl_changes (hv.mono K1.le fun _ _ h => h) (by omega) hg3 hg4 fun v1 G1 s2 k2 o1 f1 => ?_
          exact LOOP s2 v1 G1 _ (by rw [if_pos hmk]) (K1.trans k2) o1 fun i hi => none_old K1 (f1 i hi)
        · exact LOOP s1 _ [b0] [] (by rw [if_neg (by rw [hmk]; simp)]) K1 (o0.frame (ok_en w0) (k1.but_at fun i hi => (o0.dom (ok_en w0) i hi).2)) f0
end
end Go.Proofs.YtkbhjejalkbogaaGreat

/- What a trail leads to, by the reference's hand: a row of its own that holds the entries and the looks. -/
set_option linter.unusedVariables false
set_option linter.unusedSimpArgs false
set_option maxRecDepth 20000
namespace Go.Proofs.YtkbhjejalkbogaaGreat
open Go Go.Av

/-- A view without some rows. -/
def delL (σ : Vw) (F : List Nat) : Vw := fun i => if i ∈ F then none else σ i
theorem delL_none {σ : Vw} {F : List Nat} {i : Nat} (h : i ∈ F) : delL σ F i = none := by simp [delL, h]
theorem delL_out {σ : Vw} {F : List Nat} {i : Nat} (h : i ∉ F) : delL σ F i = σ i := by simp [delL, h]
theorem delL_keeps {σ : Vw} {F : List Nat} : Keeps (delL σ F) σ := fun i r h => by
  by_cases hi : i ∈ F
  · rw [delL_none hi] at h; cases h
  · rw [delL_out hi] at h; exact h
theorem keeps_delL {σ s : Vw} {F : List Nat} (k : Keeps σ s) (hF : ∀ i, i ∈ F → σ i = none) : Keeps σ (delL s F) := fun i r h => by
  by_cases hi : i ∈ F
  · rw [hF i hi] at h; cases h
  · rw [delL_out hi]; exact k i r h

/-- What a call leaves, with the rows that were kept from it. -/
def mergeL (σ : Vw) (F : List Nat) (σ' : Vw) : Vw := fun i => if i ∈ F then σ i else σ' i
theorem merge_in {σ σ' : Vw} {F : List Nat} {i : Nat} (h : i ∈ F) : mergeL σ F σ' i = σ i := by simp [mergeL, h]
theorem merge_out {σ σ' : Vw} {F : List Nat} {i : Nat} (h : i ∉ F) : mergeL σ F σ' i = σ' i := by simp [mergeL, h]
theorem del_merge {σ σ' : Vw} {F : List Nat} (h : ∀ i, i ∈ F → σ' i = none) : delL (mergeL σ F σ') F = σ' := by
  funext i
  by_cases hi : i ∈ F
  · rw [delL_none hi, h i hi]
  · rw [delL_out hi, merge_out hi]
theorem AC.hideL {P : Program} {w0 : World} {f : FuncId} {args : List Value} {σ : Vw} {R R' : Value → Vw → Prop} {F : List Nat} (h : AC P w0 f args (delL σ F) R) (hR : ∀ v σ', (∀ i, i ∈ F → σ i ≠ none → σ' i = none) → R v σ' → R' v (mergeL σ F σ')) : AC P w0 f args σ R' := by
  refine ⟨h.1, fun w hw => ?_⟩
  have hs : Sat w0 (delL σ F) w := ⟨hw.bel, fun i r' hi => hw.row i r' (delL_keeps i r' hi)⟩
  refine (h.2 w hs).mono ?_
  rintro e w' ⟨v, σ', he, hRv, ha⟩
  have hn : ∀ i, i ∈ F → σ i ≠ none → σ' i = none := fun i hi hne => by
    cases hc : σ' i with
    | none => rfl
    | some r' =>
      rcases ha.dom i r' hc with h1 | h1
      · exact absurd (delL_none hi) h1
      · cases hs' : σ i with
        | none => exact absurd hs' hne
        | some r => have := hw.lt hs'; omega
  refine ⟨v, mergeL σ F σ', he, hR v σ' hn hRv, ⟨⟨ha.sat.bel, fun i r' hi => ?_⟩, ha.size, fun i hi hni => ?_, fun i r' hi => ?_⟩⟩
  · by_cases e : i ∈ F
    · rw [merge_in e] at hi
      obtain ⟨h1, cur, h2, h3⟩ := hw.row i _ hi
      exact ⟨h1, cur, (ha.fr i (hw.lt hi) (delL_none e)).trans h2, h3⟩
    · rw [merge_out e] at hi
      exact ha.sat.row i r' hi
  · refine ha.fr i hi ?_
    by_cases e : i ∈ F
    · exact delL_none e
    · rw [delL_out e]; exact hni
  · by_cases e : i ∈ F
    · rw [merge_in e] at hi; exact .inl (by rw [hi]; simp)
    · rw [merge_out e] at hi
      rcases ha.dom i r' hi with h1 | h1
      · exact .inl (by rw [delL_out e] at h1; exact h1)
      · exact .inr h1

section
variable {w0 : World} {σ : Vw}

/-- A call that does not see some rows. -/
theorem hide_rows {f : FuncId} {args : List Value} {F : List Nat} (hF : ∀ i, i ∈ F → σ i ≠ none) {R R' : Value → Vw → Prop} (h : AC Tryz.prog w0 f args (delL σ F) R) (hk : ∀ v s, R v s → Keeps (delL σ F) s) (hR : ∀ v s, Keeps σ s → R v (delL s F) → R' v s) : AC Tryz.prog w0 f args σ R' := by
  refine AC.hideL h fun v σ' hn hRv => ?_
  have hd : delL (mergeL σ F σ') F = σ' := del_merge fun i hi => hn i hi (hF i hi)
  refine hR v _ (fun i r hi => ?_) (by rw [hd]; exact hRv)
  by_cases e : i ∈ F
  · rw [merge_in e]; exact hi
  · rw [merge_out e]; exact hk v σ' hRv i r (by rw [delL_out e]; exact hi)
theorem spec_l12KidB {n : Nat} {es : List Value} {x : Tr} {nm : ByteArray} {F : List Nat} (hF : ∀ i, i ∈ F → σ i ≠ none) (h : RT (n + 1) (Av.get w0 (delL σ F)) es x) (hx : fineT (n + 1) x) (hs : nm.size ≤ 9223372036854775807) {R : Value → Vw → Prop}
    (hR : ∀ es' s, Keeps σ s → RT (n + 1) (Av.get w0 (delL s F)) es' ((kidT x nm).getD zeroT) → R (.tuple ⟨[.agg ⟨es'⟩, .bool (kidT x nm).isSome]⟩) s) : AC Tryz.prog w0 n_spec_l12Kid [.agg ⟨es⟩, .string nm] σ R :=
  hide_rows hF (R := fun v s => Keeps (delL σ F) s ∧ ∃ es', v = .tuple ⟨[.agg ⟨es'⟩, .bool (kidT x nm).isSome]⟩ ∧ RT (n + 1) (Av.get w0 s) es' ((kidT x nm).getD zeroT)) (spec_l12Kid h hx hs fun es' s k r => ⟨k, es', rfl, r⟩) (fun v s h => h.1) fun v s k ⟨_, es', e, r⟩ => by
    subst e; exact hR es' s k r

abbrev ptrL (b : Nat) : Value := .pointer (some (Addr.mk b 0 none))
/-- The row of what was found. -/
def CL (w0 : World) (σ : Vw) (b : Nat) (G : List Nat) (lv ov : Value) (xs : List En) (k : Nat) : Prop :=
  w0.heap.size ≤ b ∧ b ∉ G ∧ lv.oneCell' = true ∧ (∃ ety, σ b = some ⟨ety, [lv, ov, .int .i64 (k : Nat)], 3, (0, 0)⟩) ∧ OAcc w0 t_impl_Entry 5 (OEn w0) σ G ov xs
theorem CL.keep {b : Nat} {G : List Nat} {lv ov : Value} {xs : List En} {k : Nat} {s : Vw} (h : CL w0 σ b G lv ov xs k) (ks : Keeps σ s) : CL w0 s b G lv ov xs k := by
  obtain ⟨h1, h2, h3, ⟨ety, h4⟩, h5⟩ := h
  exact ⟨h1, h2, h3, ⟨ety, ks _ _ h4⟩, h5.frame (ok_en w0) (ks.but_at fun i hi => (h5.dom (ok_en w0) i hi).2)⟩
theorem CL.dom {b : Nat} {G : List Nat} {lv ov : Value} {xs : List En} {k : Nat} (h : CL w0 σ b G lv ov xs k) : ∀ i, i ∈ b :: G → σ i ≠ none := fun i hi => by
  obtain ⟨h1, h2, h3, ⟨ety, h4⟩, h5⟩ := h
  rcases List.mem_cons.1 hi with e | hi
  · rw [e, h4]; simp
  · exact (h5.dom (ok_en w0) i hi).2
theorem CL.ld {b : Nat} {G : List Nat} {lv ov : Value} {xs : List En} {k : Nat} (h : CL w0 σ b G lv ov xs k) (o : Nat) (y : Value) (ho : [lv, ov, .int .i64 (k : Nat)][o]? = some y) {K : Value → (Nat → Value) → Prop} (hK : ∀ (q : Value) (g : Nat → Value), g 0 = y → K q g) :
    pNil (ptrL b) (pField o (ptrL b) fun q => pLoad w0 1 q σ (K q)) := by
  obtain ⟨h1, h2, h3, ⟨ety, h4⟩, h5⟩ := h
  rw [pNil_s, pField_s]
  refine ⟨_, fun _ => y, rfl, fun j hj => ?_, hK _ _ rfl⟩
  have e : j = 0 := by omega
  subst e
  rw [add_add, Nat.add_zero, addr_add, get_row h1 h4, Nat.zero_add]
  exact ho
/-- The looks are set. -/
theorem CL.st2 {b : Nat} {G : List Nat} {lv ov : Value} {xs : List En} {k k' : Nat} (h : CL w0 σ b G lv ov xs k) {K : Vw → Prop} (hK : ∀ s, KeepsBut (b :: G) σ s → CL w0 s b G lv ov xs k' → K s) :
    pNil (ptrL b) (pField 2 (ptrL b) fun q => pVal false 1 (.int .i64 (k' : Nat)) (pStore q [.int .i64 (k' : Nat)] σ K)) := by
  obtain ⟨h1, h2, h3, ⟨ety, h4⟩, h5⟩ := h
  rw [pNil_s]
  refine field_store (A := []) (C := []) (c := [lv, ov, .int .i64 (k : Nat)]) h4 rfl rfl (by simp) rfl ?_
  simp only [List.nil_append, List.append_nil, List.set_cons_succ, List.set_cons_zero]
  refine hK _ (fun i r hi hF => ?_) ⟨h1, h2, h3, ⟨ety, put_at⟩, h5.frame (ok_en w0) fun i hi => put_ne fun e => h2 (e ▸ hi)⟩
  have hib : i ≠ b := fun e => hF (by rw [e]; exact List.mem_cons_self)
  rw [put_ne hib]; exact hi
/-- The entries are set. -/
theorem CL.st1 {b ety : Nat} {G' : List Nat} {lv ov ov' : Value} {xs' : List En} {k : Nat} (h1 : w0.heap.size ≤ b) (h2 : b ∉ G') (h3 : lv.oneCell' = true) (h4 : σ b = some ⟨ety, [lv, ov, .int .i64 (k : Nat)], 3, (0, 0)⟩) (h5 : OAcc w0 t_impl_Entry 5 (OEn w0) σ G' ov' xs') {K : Vw → Prop}
    (hK : ∀ s, KeepsBut [b] σ s → CL w0 s b G' lv ov' xs' k → K s) :
    pNil (ptrL b) (pField 1 (ptrL b) fun q => pVal false 1 ov' (pStore q [ov'] σ K)) := by
  rw [pNil_s]
  refine field_store (A := []) (C := []) (c := [lv, ov, .int .i64 (k : Nat)]) h4 rfl rfl (by simp) (OSl.one' h5.osl) ?_
  simp only [List.nil_append, List.append_nil, List.set_cons_succ, List.set_cons_zero]
  refine hK _ (fun i r hi hF => ?_) ⟨h1, h2, h3, ⟨ety, put_at⟩, h5.frame (ok_en w0) fun i hi => put_ne fun e => h2 (e ▸ hi)⟩
  have hib : i ≠ b := fun e => hF (by rw [e]; exact List.mem_cons_self)
  rw [put_ne hib]; exact hi
/-- Entries of our own are put behind. -/
theorem CL.push {b : Nat} {G G2 : List Nat} {lv ov v2 : Value} {xs ys : List En} {k : Nat} (h : CL w0 σ b G lv ov xs k) (o2 : OSl w0 5 (OEn w0) σ G2 v2 ys) (hd : ∀ i, i ∈ G2 → i ∉ b :: G) (hl : xs.length + ys.length ≤ 10000000) {K : Vw → Prop}
    (hK : ∀ ov' G' s, KeepsBut (b :: G) σ s → CL w0 s b G' lv ov' (xs ++ ys) k → (∀ i, i ∈ G' → i ∈ G ∨ i ∈ G2 ∨ σ i = none) → K s) :
    pAppendS w0 t_impl_Entry 5 64 ov v2 σ (fun v12 s13 => pNil (ptrL b) (pField 1 (ptrL b) fun q => pVal false 1 v12 (pStore q [v12] s13 K))) := by
  obtain ⟨h1, h2, h3, ⟨ety, h4⟩, h5⟩ := h
  refine h5.allOwn (ok_en w0) o2 (fun i hi hi' => hd i hi (List.mem_cons_of_mem _ hi')) (by omega) (by omega) fun v' G' s kk o' f' => ?_
  have hb : b ∉ G' := fun hb => by
    rcases f' b hb with e | e | e
    · exact h2 e
    · exact hd b e List.mem_cons_self
    · rw [h4] at e; cases e
  refine CL.st1 h1 hb h3 (kk b _ h4 h2) o' fun s2 k2 c2 => ?_
  refine hK _ _ s2 (fun i r hi hF => ?_) c2 f'
  exact k2 i r (kk i r hi fun e => hF (List.mem_cons_of_mem _ e)) fun e => hF (by rw [List.mem_singleton.1 e]; exact List.mem_cons_self)

theorem spec_leads {b : Nat} {G : List Nat} {lv ov v' : Value} {xs : List En} {k : Nat} {ms : List Mk} {p : List ByteArray} (h : CL w0 σ b G lv ov xs k) (hm : RSl 2 RMk (Av.get w0 σ) lv ms) (h' : RSl 1 RS (Av.get w0 σ) v' p) {R : Value → Vw → Prop} (hR : R (.bool (leadsB ms p)) σ) : AC Tryz.prog w0 n_p_spec_l12Look_leads [ptrL b, v'] σ R := by
  refine ac_p_spec_l12Look_leads ?_
  unfold vc_p_spec_l12Look_leads
  have hl := hm.le
  refine loop_rule (m := ms.length) (fun m l t => ∃ j, t = σ ∧ m + j = ms.length ∧ leadsB (ms.take j) p = false ∧ l = [ptrL b, v', .bool false, .int .i64 (j : Nat)]) ?_ ⟨0, rfl, by omega, rfl, rfl⟩
  rintro m l t L ⟨j, rfl, hmj, ht, rfl⟩ hL
  simp only [vget, List.getD_cons_zero, List.getD_cons_succ]
  refine h.ld 0 lv rfl fun q g hg => ?_
  rw [hg, hm.len, pBin_lt, pIf_d]
  refine ⟨fun hj => ?_, fun hj => ?_⟩
  · have hx := List.getElem?_eq_getElem (show j < ms.length by omega)
    generalize ms[j]'(by omega) = x at hx
    refine h.ld 0 lv rfl fun q g hg => ?_
    rw [hg]
    refine RSl.atf hm hx 0 (by omega) fun es g1 r1 q1 => ?_
    obtain ⟨u, rfl, ru⟩ := r1
    simp only [List.getElem?_cons_zero, Option.some.injEq] at q1
    rw [← q1]
    refine spec_Within ru h' ?_
    rw [pIf_b]
    refine ⟨fun hw => ?_, fun hw => ?_⟩
    · rw [leads_hit hx hw] at hR; exact hR
    · rw [pBin_add (by omega)]
      exact hL _ _ (m - 1) (by omega) ⟨j + 1, rfl, by omega, by rw [leads_take hx, ht, hw]; rfl, by simp⟩
  · have e : j = ms.length := by omega
    subst e
    rw [List.take_length] at ht
    rw [ht] at hR; exact hR

/-- The names one by one. -/
def VSL (w0 : World) (pb v x0 x1 x2 x3 x4 y0 y1 y2 y3 y4 : Value) (s : Vw) (R : Value → Vw → Prop) : Prop :=
  AC Tryz.prog w0 n_spec_l12Names ([.agg (⟨[x0, x1, x2, x3, x4]⟩), .agg (⟨[y0, y1, y2, y3, y4]⟩)]) s (fun v86 s87 => pLoop (fun l88 K89 s90 => pLen (vget l88 2) (fun v91 => pBin Tryz.prog 3 .lss (vget l88 3) v91 (fun v92 => pIf v92 (pIndexAddr 1 (vget l88 2) (vget l88 3) (fun v93 => pLoad w0 1 v93 s90 (fun g94 => AC Tryz.prog w0 n_spec_l3Path [vget l88 1, g94 0] s90 (fun v95 s96 => AC Tryz.prog w0 n_p_spec_l12Look_leads [vget l88 0, v95] s96 (fun v97 s98 => pIf v97 (pIndexAddr 1 (vget l88 2) (vget l88 3) (fun v99 => pLoad w0 1 v99 s98 (fun g100 => AC Tryz.prog w0 n_spec_l12Kid ([.agg (⟨[vget l88 4, vget l88 5, vget l88 6, vget l88 7, vget l88 8]⟩), g100 0]) s98 (fun v101 s102 => pExtract v101 0 (fun v103 => pExtract v101 1 (fun v104 => pVal true 5 v103 (pIndexAddr 1 (vget l88 2) (vget l88 3) (fun v105 => pLoad w0 1 v105 s102 (fun g106 => AC Tryz.prog w0 n_spec_l12Kid ([.agg (⟨[vget l88 9, vget l88 10, vget l88 11, vget l88 12, vget l88 13]⟩), g106 0]) s102 (fun v107 s108 => pExtract v107 0 (fun v109 => pExtract v107 1 (fun v110 => pVal true 5 v109 (AC Tryz.prog w0 n_p_spec_l12Look_at ([vget l88 0, v95, .agg (⟨[cellOf v103 0, cellOf v103 1, cellOf v103 2, cellOf v103 3, cellOf v103 4]⟩), v104, .agg (⟨[cellOf v109 0, cellOf v109 1, cellOf v109 2, cellOf v109 3, cellOf v109 4]⟩), v110]) s108 (fun v111 s112 => pBin Tryz.prog 3 .add (vget l88 3) (.int .i64 1) (fun v113 => K89 AX.normal [vget l88 0, vget l88 1, vget l88 2, v113, vget l88 4, vget l88 5, vget l88 6, vget l88 7, vget l88 8, vget l88 9, vget l88 10, vget l88 11, vget l88 12, vget l88 13] s112))))))))))))))) (pBin Tryz.prog 3 .add (vget l88 3) (.int .i64 1) (fun v114 => K89 AX.normal [vget l88 0, vget l88 1, vget l88 2, v114, vget l88 4, vget l88 5, vget l88 6, vget l88 7, vget l88 8, vget l88 9, vget l88 10, vget l88 11, vget l88 12, vget l88 13] s98))))))) (K89 (AX.exit 1) [vget l88 0, vget l88 1, vget l88 2, vget l88 3, vget l88 4, vget l88 5, vget l88 6, vget l88 7, vget l88 8, vget l88 9, vget l88 10, vget l88 11, vget l88 12, vget l88 13] s90)))) [pb, v, v86, .int .i64 0, x0, x1, x2, x3, x4, y0, y1, y2, y3, y4] s87 (fun x115 l116 s117 => match x115 with | .normal => R (.tuple ⟨[]⟩) s117 | .ret => R (.tuple ⟨[]⟩) s117 | .exit i118 => (match Nat.beq i118 1 with | true => R (.tuple ⟨[]⟩) s117 | false => False)))

set_option maxHeartbeats 8000000 in
theorem spec_look : ∀ (n : Nat) {σ0 σ : Vw} {b : Nat} {G : List Nat} {v lv ov : Value} {es es' : List Value} {ps : List ByteArray} {ms : List Mk} {a c : Option Tr} {xs : List En} {k : Nat} {R : Value → Vw → Prop}, RSl 1 RS (Av.get w0 σ0) v ps → RSl 2 RMk (Av.get w0 σ0) lv ms → RT n (Av.get w0 σ0) es (a.getD zeroT) → RT n (Av.get w0 σ0) es' (c.getD zeroT) → fineO n a → fineO n c →
    ¬ (a = none ∧ c = none) → ps.length + sumS ps + 6 * n ≤ 1000000 → Keeps σ0 σ → (∀ i, i ∈ b :: G → σ0 i = none) → CL w0 σ b G lv ov xs k → xs.length + (lookE n ms ps a c).length ≤ 1000000 → k + lookN n ms ps a c ≤ 1000000 →
    (∀ ov' G' s, Keeps σ0 s → (∀ i, i ∈ b :: G' → σ0 i = none) → CL w0 s b G' lv ov' (xs ++ lookE n ms ps a c) (k + lookN n ms ps a c) → R (.tuple ⟨[]⟩) s) →
    AC Tryz.prog w0 n_p_spec_l12Look_at [ptrL b, v, .agg ⟨es⟩, .bool a.isSome, .agg ⟨es'⟩, .bool c.isSome] σ R := by
  intro n
  induction n with
  | zero => intro σ0 σ b G v lv ov es es' ps ms a c xs k R _ _ h; exact h.elim
  | succ n ih =>
    intro σ0 σ b G v lv ov es es' ps ms a c xs k R hv hm h h' hfa hfb hne hps k0 hF hcl hEl hNl hR
    have h0 := h
    have h0' := h'
    have hx := fine_getD hfa
    have hy := fine_getD hfb
    obtain ⟨u, w, rfl, _, _, _, _, hp⟩ := h.cells
    obtain ⟨u', w', rfl, _, _, _, _, hp'⟩ := h'.cells
    refine ac_p_spec_l12Look_at ?_
    unfold vc_p_spec_l12Look_at cs_p_spec_l12Look_at_1
    rw [hp, hp']
    simp only [cellOf_agg, List.getD_cons_zero, List.getD_cons_succ]
    have hl1 := fine_len hx
    have hl2 := fine_len hy
    -- entries of a list that a call makes
    have fin : ∀ {s : Vw} {ov1 v2 : Value} {G1 G2 : List Nat} {ys : List En} {k1 : Nat}, Keeps σ0 s → (∀ i, i ∈ b :: G1 → σ0 i = none) → CL w0 s b G1 lv ov1 xs k1 → OAcc w0 t_impl_Entry 5 (OEn w0) s G2 v2 ys → (∀ i, i ∈ G2 → σ0 i = none ∧ i ∉ b :: G1) → xs.length + ys.length ≤ 1000000 →
        ∀ {K : Vw → Prop}, (∀ ov' G' s', Keeps σ0 s' → (∀ i, i ∈ b :: G' → σ0 i = none) → CL w0 s' b G' lv ov' (xs ++ ys) k1 → K s') →
        pAppendS w0 t_impl_Entry 5 64 ov1 v2 s (fun v12 s13 => pNil (ptrL b) (pField 1 (ptrL b) fun q => pVal false 1 v12 (pStore q [v12] s13 K))) := by
      intro s ov1 v2 G1 G2 ys k1 ks hF1 c1 o2 hd hl K hK
      refine c1.push o2.osl (fun i hi => (hd i hi).2) (by omega) fun ov' G' s' kk c' f' => ?_
      refine hK ov' G' s' (kk.old ks hF1) (fun i hi => ?_) c'
      rcases List.mem_cons.1 hi with e | hi
      · exact hF1 i (e ▸ List.mem_cons_self)
      · rcases f' i hi with e | e | e
        · exact hF1 i (List.mem_cons_of_mem _ e)
        · exact (hd i e).1
        · exact none_old ks e
    have fresh : ∀ {s s' : Vw} {G1 G2 : List Nat}, Keeps σ0 s → (∀ i, i ∈ b :: G1 → s i ≠ none) → (∀ i, i ∈ G2 → s i = none) → ∀ i, i ∈ G2 → σ0 i = none ∧ i ∉ b :: G1 := fun {s s' G1 G2} ks hd hf i hi => ⟨none_old ks (hf i hi), fun h => hd i h (hf i hi)⟩
    -- all of b is new
    have uzero : ∀ y, c = some y → ∀ {s : Vw} {K : Value → Vw → Prop}, Keeps σ0 s → (∀ s', Keeps s s' → K (.int .i64 (cntT (n + 1) y + 1 : Nat)) s') → AC Tryz.prog w0 n_spec_l12Union ([.agg (⟨[.bool (isDir (c.getD zeroT)), .int .i64 (modeOf (c.getD zeroT)), .string (dataOf (c.getD zeroT)), u', w']⟩), .agg (⟨[.bool false, .int .i64 0, .string ({ data := #[] }), .slice none 0 0, .slice none 0 0]⟩)]) s K := by
      intro y hcy s K ks hK
      refine spec_Union (n + 1) (mono_rt _ _ _ _ _ ks.le h0') (RT_zero n _) hy (fine_zero n) fun s' k' => ?_
      have := unS_eq (n + 1) c none (by rw [hcy]; simp) hfb (fun z hz => by cases hz)
      simp only [Option.getD_none] at this
      rw [this, hcy]
      exact hK s' k'
    have eb : ∀ (p q : Bool) (K : Value → Prop), pBin Tryz.prog 4 .neq (.bool p) (.bool q) K ↔ K (.bool !(p == q)) := fun p q K => pBin_b (by kernel_rfl) rfl
    rw [pUn_not, pIf_b]
    cases a with
    | none =>
      refine ⟨fun _ => ?_, fun h => by cases h⟩
      cases c with
      | none => exact absurd ⟨rfl, rfl⟩ hne
      | some y =>
        have e1 : lookE (n + 1) ms ps none (some y) = linT fNew (n + 1) ps y := rfl
        have e2 : lookN (n + 1) ms ps none (some y) = cntT (n + 1) y + 1 := rfl
        rw [e1] at hEl hR
        rw [e2] at hNl hR
        refine hcl.ld 2 _ rfl fun q g hg => ?_
        rw [hg]
        refine uzero y rfl k0 fun s1 k1 => ⟨k1.stay, ?_⟩
        rw [pBin_add (by omega), show ((k : Nat) : Int) + ((cntT (n + 1) y + 1 : Nat) : Int) = ((k + (cntT (n + 1) y + 1) : Nat) : Int) by omega]
        refine (hcl.keep k1).st2 fun s2 k2 c2 => ?_
        have K2 : Keeps σ0 s2 := k2.old (k0.trans k1) hF
        refine c2.ld 1 _ rfl fun q g hg => ?_
        rw [hg]
        refine spec_new (n + 1) (hv.mono K2.le fun _ _ h => h) (mono_rt _ _ _ _ _ K2.le h0') hy.1 hy.2.1 hps fun v3 G3 s3 k3 o3 f3 => ⟨k3.stay, ?_⟩
        exact fin (K2.trans k3) hF (c2.keep k3) o3 (fresh (s' := s3) K2 c2.dom f3) hEl fun ov' G' s' a1 a2 a3 => hR ov' G' s' a1 a2 a3
    | some x =>
      refine ⟨fun h => (by cases h), fun _ => ?_⟩
      rw [pUn_not, pIf_b]
      cases c with
      | none =>
        refine ⟨fun _ => ?_, fun h => by cases h⟩
        have e1 : lookE (n + 1) ms ps (some x) none = [goneE ps] := rfl
        have e2 : lookN (n + 1) ms ps (some x) none = 1 := rfl
        rw [e1] at hEl hR
        rw [e2] at hNl hR
        refine hcl.ld 2 _ rfl fun q g hg => ?_
        rw [hg, pBin_add (by omega), show ((k : Nat) : Int) + 1 = ((k + 1 : Nat) : Int) by omega]
        refine hcl.st2 fun s2 k2 c2 => ?_
        have K2 : Keeps σ0 s2 := k2.old k0 hF
        refine c2.ld 1 _ rfl fun q g hg => ?_
        rw [hg]
        refine spec_gone (hv.mono K2.le fun _ _ h => h) (by omega) fun v3 G3 s3 k3 o3 f3 => ⟨k3.stay, ?_⟩
        exact fin (K2.trans k3) hF (c2.keep k3) o3 (fresh (s' := s3) K2 c2.dom f3) hEl fun ov' G' s' a1 a2 a3 => hR ov' G' s' a1 a2 a3
      | some y =>
        refine ⟨fun h => (by cases h), fun _ => ?_⟩
        rw [eb, pIf_b]
        refine ⟨fun hd => ?_, fun hd => ?_⟩
        · have hd' : ¬ isDir x = isDir y := by simpa using hd
          have e1 : lookE (n + 1) ms ps (some x) (some y) = [goneE ps] ++ linT fNew (n + 1) ps y := by simp only [lookE]; rw [if_neg hd']; rfl
          have e2 : lookN (n + 1) ms ps (some x) (some y) = cntT (n + 1) y + 1 := by simp only [lookN]; rw [if_neg hd']
          rw [e1] at hEl hR
          rw [e2] at hNl hR
          rw [List.length_append] at hEl
          refine hcl.ld 2 _ rfl fun q g hg => ?_
          rw [hg]
          refine uzero y rfl k0 fun s1 k1 => ⟨k1.stay, ?_⟩
          rw [pBin_add (by omega), show ((k : Nat) : Int) + ((cntT (n + 1) y + 1 : Nat) : Int) = ((k + (cntT (n + 1) y + 1) : Nat) : Int) by omega]
          refine (hcl.keep k1).st2 fun s2 k2 c2 => ?_
          have K2 : Keeps σ0 s2 := k2.old (k0.trans k1) hF
          refine c2.ld 1 _ rfl fun q g hg => ?_
          rw [hg]
          refine spec_gone (hv.mono K2.le fun _ _ h => h) (by omega) fun v3 G3 s3 k3 o3 f3 => ⟨k3.stay, ?_⟩
          have hd3 := fresh (s' := s3) K2 c2.dom f3
          have K3 := K2.trans k3
          obtain ⟨q1, q2, q3, ⟨ety, q4⟩, q5⟩ := c2.keep k3
          refine q5.allOwn (ok_en w0) o3.osl (fun i hi hi' => (hd3 i hi).2 (List.mem_cons_of_mem _ hi')) (by omega) (by omega) fun v4 G4 s4 k4 o4 f4 => ?_
          have hb4 : b ∉ G4 := fun hb => by
            rcases f4 b hb with e | e | e
            · exact q2 e
            · exact (hd3 b e).2 List.mem_cons_self
            · rw [q4] at e; cases e
          have hF4 : ∀ i, i ∈ G4 → σ0 i = none := fun i hi => by
            rcases f4 i hi with e | e | e
            · exact hF i (List.mem_cons_of_mem _ e)
            · exact (hd3 i e).1
            · exact none_old K3 e
          have K4 : Keeps σ0 s4 := k4.old K3 fun i hi => hF i (List.mem_cons_of_mem _ hi)
          have r4 := k4 b _ q4 q2
          refine spec_new (n + 1) (hv.mono K4.le fun _ _ h => h) (mono_rt _ _ _ _ _ K4.le h0') hy.1 hy.2.1 hps fun v5 G5 s5 k5 o5 f5 => ?_
          have o45 := o4.frame (ok_en w0) (k5.but_at fun i hi => (o4.dom (ok_en w0) i hi).2)
          refine o45.allOwn (ok_en w0) o5.osl (fun i hi hi' => (o4.dom (ok_en w0) i hi').2 (f5 i hi)) (by rw [List.length_append]; simp only [Option.getD_some]; omega) (by omega) fun v6 G6 s6 k6 o6 f6 => ?_
          have hb6 : b ∉ G6 := fun hb => by
            rcases f6 b hb with e | e | e
            · exact hb4 e
            · rw [f5 b e] at r4; cases r4
            · rw [k5 b _ r4] at e; cases e
          have K5 := K4.trans k5
          have K6 : Keeps σ0 s6 := k6.old K5 hF4
          refine CL.st1 q1 hb6 q3 (k6 b _ (k5 b _ r4) hb4) o6 fun s7 k7 c7 => ?_
          rw [List.append_assoc] at c7
          refine hR _ _ s7 (k7.old K6 fun i hi => by rw [List.mem_singleton.1 hi]; exact hF b List.mem_cons_self) (fun i hi => ?_) c7
          rcases List.mem_cons.1 hi with e | hi
          · exact hF i (e ▸ List.mem_cons_self)
          · rcases f6 i hi with e | e | e
            · exact hF4 i e
            · exact none_old K4 (f5 i e)
            · exact none_old K5 e
        have hd' : isDir x = isDir y := by simpa using hd
        refine hcl.ld 0 _ rfl fun q g hg => ?_
        rw [hg]
        refine spec_l11Under (hm.mono k0.le fun _ _ => mono_mk k0.le) (hv.mono k0.le fun _ _ h => h) ?_
        rw [pIf_b]
        refine ⟨fun hu => ?_, fun hu => ?_⟩
        · have e1 : lookE (n + 1) ms ps (some x) (some y) = walkE (n + 1) ps (some x) (some y) := by simp only [lookE]; rw [if_pos hd', if_pos hu]
          have e2 : lookN (n + 1) ms ps (some x) (some y) = unT (n + 1) (some x) (some y) := by simp only [lookN]; rw [if_pos hd', if_pos hu]
          rw [e1] at hEl hR
          rw [e2] at hNl hR
          refine hcl.ld 2 _ rfl fun q g hg => ?_
          rw [hg]
          refine spec_Union (n + 1) (mono_rt _ _ _ _ _ k0.le h0) (mono_rt _ _ _ _ _ k0.le h0') hx hy fun s1 k1 => ⟨k1.stay, ?_⟩
          have hun := unS_eq (n + 1) (some x) (some y) (by simp) hfa hfb
          rw [hun, pBin_add (by omega), show ((k : Nat) : Int) + ((unT (n + 1) (some x) (some y) : Nat) : Int) = ((k + unT (n + 1) (some x) (some y) : Nat) : Int) by omega]
          refine (hcl.keep k1).st2 fun s2 k2 c2 => ?_
          have K2 : Keeps σ0 s2 := k2.old (k0.trans k1) hF
          refine c2.ld 1 _ rfl fun q g hg => ?_
          rw [hg]
          refine spec_walk (n + 1) (hv.mono K2.le fun _ _ h => h) (mono_rt _ _ _ _ _ K2.le h0) (mono_rt _ _ _ _ _ K2.le h0') hx.1 hy.1 hx.2.1 hy.2.1 hps fun v3 G3 s3 k3 o3 f3 => ⟨k3.stay, ?_⟩
          exact fin (K2.trans k3) hF (c2.keep k3) o3 (fresh (s' := s3) K2 c2.dom f3) hEl fun ov' G' s' a1 a2 a3 => hR ov' G' s' a1 a2 a3
        obtain ⟨eE, eN⟩ := lookE_names (ms := ms) (ps := ps) hx hy hd' hu
        simp only [Option.getD_some] at eE eN
        rw [eE] at hEl hR
        rw [eN] at hNl hR
        have hLl := names_both hx hy
        have hLm : ∀ z, z ∈ namesU (namesOf x ++ namesOf y) → z ∈ namesOf x ∨ z ∈ namesOf y := fun z hz => by rw [namesU_mem, List.mem_append] at hz; exact hz
        clear eE eN
        -- the names one by one
        have LOOP : ∀ (s : Vw) (ov1 : Value) (G1 : List Nat) (pe : List En), pe = (if markedB ms ps = true then partE ps x y else []) → Keeps σ0 s → (∀ i, i ∈ b :: G1 → σ0 i = none) → CL w0 s b G1 lv ov1 (xs ++ pe) (k + 1) →
            VSL w0 (ptrL b) v (.bool (isDir x)) (.int .i64 (modeOf x)) (.string (dataOf x)) u w (.bool (isDir y)) (.int .i64 (modeOf y)) (.string (dataOf y)) u' w' s R := by
          intro s ov1 G1 pe hpe ks1 hF1 c1
          rw [← hpe] at hR hEl
          unfold VSL
          refine spec_l12Names (mono_rt _ _ _ _ _ ks1.le h0) (mono_rt _ _ _ _ _ ks1.le h0') (fine_asc hx) (fine_asc hy) (by omega) fun nv F s2 k2 on fn => ?_
          simp only [Option.getD_some] at on
          have c2 := c1.keep k2
          have hFd : ∀ i, i ∈ F → i ∉ b :: G1 := fun i hi h => c1.dom i h (fn i hi)
          have fn0 : ∀ i, i ∈ F → σ0 i = none := fun i hi => none_old ks1 (fn i hi)
          clear hLl
          generalize namesU (namesOf x ++ namesOf y) = L at *
          generalize hW : lookW n ms ps x y = W at hR hEl
          generalize hV : lookV n ms ps x y = V at hR hNl
          have hll := (on.rel (ok_str w0)).le
          refine loop_rule (m := L.length) (fun cc l st => ∃ (j : Nat) (G2 : List Nat) (ov2 : Value), cc + j = L.length ∧ Keeps σ0 st ∧ (∀ i, i ∈ b :: G2 → σ0 i = none) ∧ CL w0 st b G2 lv ov2 (xs ++ (pe ++ ((L.take j).map W).flatten)) (k + (1 + sumBy V (L.take j))) ∧
              OStrs w0 st F nv L ∧ (∀ i, i ∈ F → i ∉ b :: G2) ∧ l = [ptrL b, v, nv, .int .i64 (j : Nat), .bool (isDir x), .int .i64 (modeOf x), .string (dataOf x), u, w, .bool (isDir y), .int .i64 (modeOf y), .string (dataOf y), u', w']) ?_
            ⟨0, G1, ov1, by omega, ks1.trans k2, hF1, by simpa [sumBy] using c2, on, hFd, rfl⟩
          rintro cc l st L' ⟨j, G2, ov2, hcj, ks, hF2, c3, hon, hFG, rfl⟩ hL'
          simp only [vget, List.getD_cons_zero, List.getD_cons_succ]
          have onr := hon.rel (ok_str w0)
          rw [onr.len, pBin_lt, pIf_d]
          refine ⟨fun hj => ?_, fun hj => ?_⟩
          · have hnm := List.getElem?_eq_getElem (show j < L.length by omega)
            generalize L[j]'(by omega) = nm at hnm
            have hmem := hLm nm (List.mem_of_getElem? hnm)
            have hn0 : n ≠ 0 := by
              rcases hmem with hm | hm
              · exact kid_level hx hm
              · exact kid_level hy hm
            have hsz : nm.size ≤ 5 := by
              rcases hmem with h | h
              · exact name_short hx.1 h
              · exact name_short hy.1 h
            refine RSl.at1 onr hnm fun g hg hgs => ?_
            rw [hg]
            refine spec_path (hv.mono ks.le fun _ _ h => h) (by omega) (by omega) fun pv PF s4 k4 op fp => ?_
            have K4 := ks.trans k4
            have c4 := c3.keep k4
            have onr4 := onr.mono k4.le fun _ _ h => h
            have hst := sumBy_take (f := V) hnm
            have hsl := sumBy_le (f := V) (xs := L) (j + 1)
            have hft := flat_take (f := W) hnm
            refine spec_leads c4 (hm.mono K4.le fun _ _ => mono_mk K4.le) (op.rel (ok_str w0)) ?_
            rw [pIf_b]
            refine ⟨fun hld => ?_, fun hld => ?_⟩
            · obtain ⟨n', rfl⟩ := Nat.exists_eq_succ_of_ne_zero hn0
              refine RSl.at1 onr4 hnm fun g2 hg2 _ => ?_
              rw [hg2]
              have hFs : ∀ i, i ∈ b :: G2 → s4 i ≠ none := c4.dom
              have kd4 : Keeps σ0 (delL s4 (b :: G2)) := keeps_delL K4 hF2
              refine spec_l12KidB hFs (mono_rt _ _ _ _ _ kd4.le h0) hx hgs fun e1 s5 k5 r1 => ?_
              have r10 := r1
              obtain ⟨u2, w2, rfl, _, _, _, _, hp2⟩ := r1.cells
              rw [pExtract_s rfl, pExtract_s rfl, hp2]
              refine RSl.at1 (onr4.mono k5.le fun _ _ h => h) hnm fun g3 hg3 _ => ?_
              rw [hg3]
              have c5 := c4.keep k5
              have kd5 : Keeps σ0 (delL s5 (b :: G2)) := keeps_delL (K4.trans k5) hF2
              refine spec_l12KidB c5.dom (mono_rt _ _ _ _ _ kd5.le h0') hy hgs fun e2 s6 k6 r2 => ?_
              have r20 := r2
              obtain ⟨u3, w3, rfl, _, _, _, _, hp3⟩ := r2.cells
              rw [pExtract_s rfl, pExtract_s rfl, hp3]
              simp only [cellOf_agg, List.getD_cons_zero, List.getD_cons_succ]
              have c6 := c5.keep k6
              have K6 := (K4.trans k5).trans k6
              have kd6 : Keeps σ0 (delL s6 (b :: G2)) := keeps_delL K6 hF2
              have kd56 : Keeps (delL s5 (b :: G2)) (delL s6 (b :: G2)) := keeps_delL (delL_keeps.trans k6) fun i hi => delL_none hi
              have f1 := fine_getD (kid_fineT hx nm)
              have f2 := fine_getD (kid_fineT hy nm)
              have hne' : ¬ (kidT x nm = none ∧ kidT y nm = none) := fun h => by
                rcases hmem with hm | hm
                · exact kid_there hx.1 hm h.1
                · exact kid_there hy.1 hm h.2
              have hPF : ∀ i, i ∈ PF → i ∉ b :: G2 := fun i hi h => c3.dom i h (fp i hi)
              have op6 := (op.frame (ok_str w0) ((k5.trans k6).but_at fun i hi => (op.dom (ok_str w0) i hi).2)).frame (σ' := delL s6 (b :: G2)) (ok_str w0) fun i hi => delL_out (hPF i hi)
              have hW1 : W nm = lookE (n' + 1) ms (ps ++ [nm]) (kidT x nm) (kidT y nm) := by rw [← hW, lookW, if_pos hld]
              have hV1 : V nm = lookN (n' + 1) ms (ps ++ [nm]) (kidT x nm) (kidT y nm) := by rw [← hV, lookV, if_pos hld]
              have hlE : (xs ++ (pe ++ ((L.take j).map W).flatten)).length + (W nm).length ≤ 1000000 := by
                have e2 : ((L.map W).flatten).length = (((L.take (j + 1)).map W).flatten).length + (((L.drop (j + 1)).map W).flatten).length := by
                  rw [← List.length_append, ← List.flatten_append, ← List.map_append, List.take_append_drop]
                rw [hft, List.length_append] at e2
                rw [List.length_append] at hEl
                rw [List.length_append, List.length_append]
                omega
              refine ih (σ0 := delL s6 (b :: G2)) (a := kidT x nm) (c := kidT y nm) (op6.rel (ok_str w0)) (hm.mono kd6.le fun _ _ => mono_mk kd6.le) (RT_short _ _ _ _ _ (mono_rt _ _ _ _ _ kd56.le r10) f1.1) (RT_short _ _ _ _ _ r20 f2.1) (kid_fineT hx nm) (kid_fineT hy nm) hne'
                (by rw [List.length_append, sumS_snoc]; simp only [List.length_cons, List.length_nil]; omega) delL_keeps (fun i hi => delL_none hi) c6 (by rw [← hW1]; exact hlE) (by rw [← hV1]; omega) fun ov7 G7 s7 k7 hF7 c7 => ?_
              rw [← hW1, ← hV1] at c7
              rw [pBin_add (by omega)]
              have hon6 := hon.frame (ok_str w0) (((k4.trans k5).trans k6).but_at fun i hi => (hon.dom (ok_str w0) i hi).2)
              have hon7 := hon6.frame (σ' := s7) (ok_str w0) fun i hi => by
                cases hs : s6 i with
                | none => exact absurd hs (hon6.dom (ok_str w0) i hi).2
                | some r => exact k7 i r (by rw [delL_out (hFG i hi)]; exact hs)
              refine hL' _ _ (cc - 1) (by omega) ⟨j + 1, G7, ov7, by omega, kd6.trans k7, fun i hi => none_old kd6 (hF7 i hi), ?_, hon7, fun i hi hi' => ?_, by simp⟩
              · rw [hft, hst, ← List.append_assoc pe, ← List.append_assoc xs]
                rw [show k + (1 + (sumBy V (L.take j) + V nm)) = k + (1 + sumBy V (L.take j)) + V nm by omega]
                exact c7
              · have h1 := hF7 i hi'
                rw [delL_out (hFG i hi)] at h1
                exact (hon6.dom (ok_str w0) i hi).2 h1
            · have hW1 : W nm = [] := by rw [← hW, lookW, if_neg (by rw [hld]; simp)]
              have hV1 : V nm = 0 := by rw [← hV, lookV, if_neg (by rw [hld]; simp)]
              rw [pBin_add (by omega)]
              refine hL' _ _ (cc - 1) (by omega) ⟨j + 1, G2, ov2, by omega, K4, hF2, ?_, hon.frame (ok_str w0) (k4.but_at fun i hi => (hon.dom (ok_str w0) i hi).2), hFG, by simp⟩
              rw [hft, hW1, hst, hV1, List.append_nil, Nat.add_zero]; exact c4
          · have e : j = L.length := by omega
            subst e
            rw [List.take_length] at c3
            exact hR ov2 G2 st ks hF2 c3
        refine hcl.ld 2 _ rfl fun q g hg => ?_
        rw [hg, pBin_add (by omega), show ((k : Nat) : Int) + 1 = ((k + 1 : Nat) : Int) by omega]
        refine hcl.st2 fun s2 k2 c2 => ?_
        have K2 : Keeps σ0 s2 := k2.old k0 hF
        refine c2.ld 0 _ rfl fun q g hg => ?_
        rw [hg]
        refine spec_l11Marked (hm.mono K2.le fun _ _ => mono_mk K2.le) (hv.mono K2.le fun _ _ h => h) ?_
        rw [pIf_b]
        refine ⟨fun hmk => ?_, fun hmk => ?_⟩
        · refine c2.ld 1 _ rfl fun q g hg => ?_
          rw [hg]
          refine spec_part (hv.mono K2.le fun _ _ h => h) (by omega) (mono_rt _ _ _ _ _ K2.le h0) (mono_rt _ _ _ _ _ K2.le h0') fun v3 G3 s3 k3 o3 f3 => ⟨k3.stay, ?_⟩
          refine fin (K2.trans k3) hF (c2.keep k3) o3 (fresh (s' := s3) K2 c2.dom f3) (by rw [if_pos hmk, List.length_append] at hEl; simp only [Option.getD_some]; omega) fun ov' G' s' a1 a2 a3 => ?_
          exact LOOP s' ov' G' _ (by rw [if_pos hmk]; rfl) a1 a2 a3
        · exact LOOP s2 _ G [] (by rw [if_neg (by rw [hmk]; simp)]) K2 hF (by rw [List.append_nil]; exact c2)
end
end Go.Proofs.YtkbhjejalkbogaaGreat

/- 'TrailDiff' by either hand, and its law. -/
set_option linter.unusedVariables false
set_option linter.unusedSimpArgs false
set_option maxRecDepth 20000
namespace Go.Proofs.YtkbhjejalkbogaaGreat
open Go Go.Av

noncomputable def diffM (n m : Nat) (x y : Tr) (ms : List Mk) : List En × Nat := if ((treeOk n x = true ∧ treeOk m y = true) ∧ trailOk ms = true) ∧ 0 < ms.length then (lookE 5 ms [] (some x) (some y), lookN 5 ms [] (some x) (some y)) else ([], 0)
theorem diffM_no {n m : Nat} {x y : Tr} {ms : List Mk} (h : ¬ (((treeOk n x = true ∧ treeOk m y = true) ∧ trailOk ms = true) ∧ 0 < ms.length)) : diffM n m x y ms = ([], 0) := by rw [diffM, if_neg h]
theorem diffM_yes {n m : Nat} {x y : Tr} {ms : List Mk} (h : ((treeOk n x = true ∧ treeOk m y = true) ∧ trailOk ms = true) ∧ 0 < ms.length) : diffM n m x y ms = (lookE 5 ms [] (some x) (some y), lookN 5 ms [] (some x) (some y)) := by rw [diffM, if_pos h]
section
variable {w0 : World} {σ : Vw}

abbrev OutDM (w0 : World) (σ : Vw) (d : List En × Nat) (R : Value → Vw → Prop) : Prop := ∀ v F σ', Keeps σ σ' → OSl w0 5 (OEn w0) σ' F v d.1 → (∀ i, i ∈ F → σ i = none) → R (.tuple ⟨[v, .int .i64 (d.2 : Nat)]⟩) σ'
theorem outDM_no {d : List En × Nat} {R : Value → Vw → Prop} {s : Vw} (hR : OutDM w0 σ d R) (hd : d = ([], 0)) (k : Keeps σ s) : pNew w0 t_impl_Entry [] s (fun n3 s4 => R (.tuple (⟨[.slice (some (Addr.mk n3 0 none)) 0 0, .int .i64 0]⟩)) s4) := fun b hb1 hb2 => by
  subst hd
  refine hR _ [b] _ (k.trans (Keeps.put hb2)) ?_ fun i hi => by rw [List.mem_singleton.1 hi]; exact none_old k hb2
  exact (OAcc.new (O := OEn w0) hb1).osl

theorem spec_TrailDiff {n m : Nat} {es es' : List Value} {v : Value} {x y : Tr} {ms : List Mk} (h : RT n (Av.get w0 σ) es x) (h' : RT m (Av.get w0 σ) es' y) (hv : RSl 2 RMk (Av.get w0 σ) v ms) (hb : cntT n x ≤ 1000000000000) (hb' : cntT m y ≤ 1000000000000) {R : Value → Vw → Prop}
    (hR : OutDM w0 σ (diffM n m x y ms) R) : AC Tryz.prog w0 n_spec_TrailDiff [.agg ⟨es⟩, .agg ⟨es'⟩, v] σ R := by
  have h0 := h
  have h0' := h'
  obtain ⟨u, w, rfl, _, _, _, _, hp⟩ := h.cells
  obtain ⟨u', w', rfl, _, _, _, _, hp'⟩ := h'.cells
  refine ac_spec_TrailDiff ?_
  unfold vc_spec_TrailDiff
  rw [hp, hp']
  simp only [cellOf_agg, List.getD_cons_zero, List.getD_cons_succ]
  refine spec_TreeOk h0 hb (pNotIf.2 ⟨fun hno => outDM_no hR (diffM_no (by rw [hno]; simp)) (Keeps.refl _), fun hok => ?_⟩)
  refine spec_TreeOk h0' hb' (pNotIf.2 ⟨fun hno => outDM_no hR (diffM_no (by rw [hno]; simp)) (Keeps.refl _), fun hok' => ?_⟩)
  refine spec_TrailOk hv (pNotIf.2 ⟨fun hno => outDM_no hR (diffM_no (by rw [hno]; simp)) (Keeps.refl _), fun hmk => ?_⟩)
  obtain ⟨d1, x1, c1⟩ := ok_fineT hok
  obtain ⟨d2, x2, c2⟩ := ok_fineT hok'
  intro a ha1 ha2
  have k1 : Keeps σ (σ.put a ⟨t_impl_Entry, [], 0, (0, 0)⟩) := Keeps.put ha2
  have o1 : OAcc w0 t_impl_Entry 5 (OEn w0) (σ.put a ⟨t_impl_Entry, [], 0, (0, 0)⟩) [a] (.slice (some ⟨a, 0, none⟩) 0 0) [] := OAcc.new ha1
  rw [pVal1 hv.one, pVal1 rfl, pVal_3 hv.one rfl rfl]
  generalize hs1 : σ.put a _ = s1 at k1 o1
  intro b hb1 hb2
  have k2 := Keeps.put (r := ⟨t_spec_l12Look, [v, .slice (some ⟨a, 0, none⟩) 0 0, .int .i64 0], 3, (0, 0)⟩) hb2
  have hab : b ≠ a := fun e => by rw [e, ← hs1, put_at] at hb2; cases hb2
  have c0 : CL w0 (s1.put b ⟨t_spec_l12Look, [v, .slice (some ⟨a, 0, none⟩) 0 0, .int .i64 0], 3, (0, 0)⟩) b [a] v (.slice (some ⟨a, 0, none⟩) 0 0) [] 0 :=
    ⟨hb1, fun h => hab (List.mem_singleton.1 h), hv.one, ⟨_, put_at⟩, o1.frame (ok_en w0) (k2.but_at fun i hi => (o1.dom (ok_en w0) i hi).2)⟩
  have K2 := k1.trans k2
  have hF0 : ∀ i, i ∈ [b, a] → σ i = none := fun i hi => by
    simp at hi
    rcases hi with e | e
    · rw [e]; exact none_old k1 hb2
    · rw [e]; exact ha2
  show pLen v _
  generalize Vw.put _ b _ = s2 at k2 c0 K2
  rw [hv.len, pBin_gt, pIf_d]
  refine ⟨fun hpos => ?_, fun hz => ?_⟩
  · rw [diffM_yes ⟨⟨⟨hok, hok'⟩, hmk⟩, by omega⟩] at hR
    intro p hp1 hp2
    have k3 := Keeps.put (r := ⟨t_string, [], 0, (0, 0)⟩) hp2
    have c3 := c0.keep k3
    have hpp : p ∉ [b, a] := fun hi => by
      have := c0.dom p hi
      exact this hp2
    have K3 := K2.trans k3
    generalize hs3 : Vw.put _ p _ = s3 at k3 c3 K3
    have kd : Keeps σ (delL s3 [b, a]) := keeps_delL K3 hF0
    have hpv : RSl 1 RS (Av.get w0 (delL s3 [b, a])) (.slice (some ⟨p, 0, none⟩) 0 0) [] := ⟨_, 0, rfl, by simp, fun j x h => by simp at h⟩
    have le := lookE_len 5 ms [] (some x) (some y)
    have ln := lookN_le 5 ms [] (some x) (some y)
    simp only [cntO] at le ln
    refine spec_look 5 (σ0 := delL s3 [b, a]) (G := [a]) (a := some x) (c := some y) hpv (hv.mono kd.le fun _ _ => mono_mk kd.le) (mono_rt 5 _ _ _ _ kd.le (d1 _ _ h0)) (mono_rt 5 _ _ _ _ kd.le (d2 _ _ h0')) (fun z hz => by cases hz; exact x1) (fun z hz => by cases hz; exact x2) (fun h => by cases h.1) (by simp [sumS]) delL_keeps (fun i hi => delL_none hi) c3 (by simp; omega) (by omega) fun ov G s4 k4 hF4 c4 => ?_
    refine c4.ld 1 _ rfl fun q g hg => ?_
    refine c4.ld 2 _ rfl fun q2 g2 hg2 => ?_
    rw [hg, hg2, Nat.zero_add]
    obtain ⟨_, _, _, _, o4⟩ := c4
    rw [List.nil_append] at o4
    exact hR ov G s4 (kd.trans k4) o4.osl fun i hi => none_old kd (hF4 i (List.mem_cons_of_mem _ hi))
  · rw [diffM_no (by rintro ⟨_, h⟩; omega)] at hR
    refine c0.ld 1 _ rfl fun q g hg => ?_
    refine c0.ld 2 _ rfl fun q2 g2 hg2 => ?_
    rw [hg, hg2]
    obtain ⟨_, _, _, _, o4⟩ := c0
    exact hR _ [a] s2 K2 o4.osl fun i hi => hF0 i (List.mem_cons_of_mem _ hi)

theorem impl_TrailDiff {n m : Nat} {es es' : List Value} {v : Value} {x y : Tr} {ms : List Mk} (h : RT n (Av.get w0 σ) es x) (h' : RT m (Av.get w0 σ) es' y) (hv : RSl 2 RMk (Av.get w0 σ) v ms) (hb : cntT n x ≤ 1000000000000) (hb' : cntT m y ≤ 1000000000000) {R : Value → Vw → Prop}
    (hR : OutDM w0 σ (diffM n m x y ms) R) : AC Tryz.prog w0 n_impl_TrailDiff [.agg ⟨es⟩, .agg ⟨es'⟩, v] σ R := by
  have h0 := h
  have h0' := h'
  obtain ⟨e0, e1, e2, e3, e4, rfl, _, hpv⟩ := RT.five h
  obtain ⟨e0', e1', e2', e3', e4', rfl, _, hpv'⟩ := RT.five h'
  refine ac_impl_TrailDiff ?_
  unfold vc_impl_TrailDiff
  rw [hpv]
  simp only [cellOf_agg, List.getD_cons_zero, List.getD_cons_succ]
  intro a ha1 ha2
  have k1 : Keeps σ (σ.put a ⟨t_impl_Tree, [e0, e1, e2, e3, e4], 5, (0, 0)⟩) := Keeps.put ha2
  have p1 := PT.new (ety := t_impl_Tree) (c := 5) h0 ha1 ha2
  rw [hpv']
  intro b hb1 hb2
  have k2 := Keeps.put (r := ⟨t_impl_Tree, [e0', e1', e2', e3', e4'], 5, (0, 0)⟩) hb2
  have p2 := PT.new (ety := t_impl_Tree) (c := 5) (mono_rt _ _ _ _ _ k1.le h0') hb1 hb2
  have p1' := p1.mono k2.le
  have K2 := k1.trans k2
  generalize hs : Vw.put _ b _ = s at k2 p2 p1' K2
  clear hs
  refine PT.load p1' fun g hg => ?_
  refine impl_TreeOk hg hb (pNotIf.2 ⟨fun hno => outDM_no hR (diffM_no (by rw [hno]; simp)) K2, fun hok => ?_⟩)
  refine PT.load p2 fun g' hg' => ?_
  refine impl_TreeOk hg' hb' (pNotIf.2 ⟨fun hno => outDM_no hR (diffM_no (by rw [hno]; simp)) K2, fun hok' => ?_⟩)
  have hvs := hv.mono K2.le fun _ _ => mono_mk K2.le
  refine impl_TrailOk hvs (pNotIf.2 ⟨fun hno => outDM_no hR (diffM_no (by rw [hno]; simp)) K2, fun hmk => ?_⟩)
  obtain ⟨d1, x1, c1⟩ := ok_fineT hok
  obtain ⟨d2, x2, c2⟩ := ok_fineT hok'
  rw [hvs.len, pBin_eq, pIf_d]
  refine ⟨fun hz => outDM_no hR (diffM_no (by rintro ⟨_, h⟩; omega)) K2, fun hz => ?_⟩
  rw [diffM_yes ⟨⟨⟨hok, hok'⟩, hmk⟩, by omega⟩] at hR
  refine impl_look 5 (ps := []) (by omega) (nil_in (G := []) s (KeepsBut.refl _ _)) hvs (a := some x) (b := some y) (PT_of d1 p1') (PT_of d2 p2) (fun z hz => by cases hz; exact x1) (fun z hz => by cases hz; exact x2) (fun h => by cases h.1) (by simp [sumS]) fun v1 G s' k o f => ?_
  rw [pExtract_s rfl, pExtract_s rfl]
  exact hR v1 G s' (K2.trans k) o.osl fun i hi => none_old K2 (f i hi)

end
end Go.Proofs.YtkbhjejalkbogaaGreat

/- What is marked stays marked; a trail that covers leads to all that differs: pure. -/
set_option linter.unusedVariables false
set_option linter.unusedSimpArgs false
set_option maxRecDepth 20000
namespace Go.Proofs.YtkbhjejalkbogaaGreat
open Go Go.Av

/-! ### Marks are not forgotten -/
theorem under_iff {l : List Mk} {p : List ByteArray} : underB l p = true ↔ ∃ x, x ∈ l ∧ x.2 = true ∧ x.1 <+: p := by
  unfold underB
  rw [List.any_eq_true]
  refine ⟨fun ⟨x, hx, h⟩ => ?_, fun ⟨x, hx, h1, h2⟩ => ⟨x, hx, by rw [h1, within_iff.2 h2]; rfl⟩⟩
  rw [Bool.and_eq_true] at h
  exact ⟨x, hx, h.1, within_iff.1 h.2⟩
theorem marked_iff {l : List Mk} {p : List ByteArray} : markedB l p = true ↔ (∃ x, x ∈ l ∧ x.2 = true ∧ x.1 <+: p) ∨ ∃ x, x ∈ l ∧ x.1 = p := by
  unfold markedB
  rw [Bool.or_eq_true, under_iff, List.any_eq_true]
  refine or_congr Iff.rfl ⟨fun ⟨x, hx, h⟩ => ⟨x, hx, of_decide_eq_true h⟩, fun ⟨x, hx, h⟩ => ⟨x, hx, decide_eq_true h⟩⟩
theorem leads_iff {l : List Mk} {p : List ByteArray} : leadsB l p = true ↔ ∃ x, x ∈ l ∧ p <+: x.1 := by
  unfold leadsB
  rw [List.any_eq_true]
  exact ⟨fun ⟨x, hx, h⟩ => ⟨x, hx, within_iff.1 h⟩, fun ⟨x, hx, h⟩ => ⟨x, hx, within_iff.2 h⟩⟩
/-! ### A trail that covers leads to all that differs -/
theorem prefix_snoc {p q : List ByteArray} {nm : ByteArray} (h : q <+: p ++ [nm]) : q <+: p ∨ q = p ++ [nm] := by
  rcases List.prefix_concat_iff.1 h with e | e
  · exact .inr e
  · exact .inl e
theorem not_under_kid {ms : List Mk} {ps : List ByteArray} {nm : ByteArray} (hu : underB ms ps = false) (hl : leadsB ms (ps ++ [nm]) = false) : underB ms (ps ++ [nm]) = false := by
  cases h : underB ms (ps ++ [nm]) with
  | false => rfl
  | true =>
    obtain ⟨x, hx, h1, h2⟩ := under_iff.1 h
    rcases prefix_snoc h2 with e | e
    · rw [under_iff.2 ⟨x, hx, h1, e⟩] at hu; cases hu
    · rw [leads_iff.2 ⟨x, hx, by rw [e]; exact List.prefix_refl _⟩] at hl; cases hl
theorem part_same {ps : List ByteArray} {x y : Tr} (h : diffB (some x) (some y) = false) : isDir x = isDir y ∧ partE ps x y = [] := by
  unfold diffB at h
  simp only [Bool.not_eq_false', Bool.and_eq_true, decide_eq_true_eq] at h
  refine ⟨h.1, ?_⟩
  unfold partE
  rw [if_pos h.2.1, if_pos h.2.2]; rfl
theorem cov_kid {n : Nat} {ms : List Mk} {ps : List ByteArray} {x y : Tr} (hx : fineT (n + 1) x) (hy : fineT (n + 1) y) (h : covP (n + 1) ms ps (some x) (some y) = true) : (diffB (some x) (some y) = true → markedB ms ps = true) ∧ ∀ nm, nm ∈ namesU (namesOf x ++ namesOf y) → covP n ms (ps ++ [nm]) (kidT x nm) (kidT y nm) = true := by
  rw [covP_names (a := some x) (b := some y) hx hy, Bool.and_eq_true] at h
  refine ⟨fun hd => ?_, fun nm hnm => List.all_eq_true.1 h.2 nm hnm⟩
  have := h.1
  rw [hd] at this
  simpa using this
/-- Where no mark is, and none above, nothing differs. -/
theorem quiet : ∀ (n : Nat) (ms : List Mk) (ps : List ByteArray) (a b : Option Tr), fineO n a → fineO n b → leadsB ms ps = false → underB ms ps = false → covP n ms ps a b = true → ¬ (a = none ∧ b = none) → ∃ x y, a = some x ∧ b = some y ∧ walkE n ps a b = []
  | 0, _, _, none, none, _, _, _, _, _, h => absurd ⟨rfl, rfl⟩ h
  | 0, _, _, some x, _, h, _, _, _, _, _ => ((h x rfl).1).elim
  | 0, _, _, none, some x, _, h, _, _, _, _ => ((h x rfl).1).elim
  | n + 1, ms, ps, a, b, ha, hb, hl, hu, hc, hne => by
    have hmk : markedB ms ps = false := by
      cases h : markedB ms ps with
      | false => rfl
      | true =>
        rcases marked_iff.1 h with h | ⟨x, hx, e⟩
        · rw [under_iff.2 h] at hu; cases hu
        · rw [leads_iff.2 ⟨x, hx, by rw [e]; exact List.prefix_refl _⟩] at hl; cases hl
    have hd : diffB a b = false := by
      simp only [covP, Bool.and_eq_true] at hc
      have := hc.1
      rw [hmk] at this
      simpa using this
    cases a with
    | none => cases b <;> cases hd
    | some x =>
      cases b with
      | none => cases hd
      | some y =>
        have hx : fineT (n + 1) x := ha x rfl
        have hy : fineT (n + 1) y := hb y rfl
        obtain ⟨e1, e2⟩ := part_same (ps := ps) hd
        refine ⟨x, y, rfl, rfl, ?_⟩
        simp only [walkE]
        rw [if_pos e1, e2, mrg_kids hx hy, List.map_map, List.nil_append]
        refine List.flatten_eq_nil_iff.2 fun l hl' => ?_
        obtain ⟨nm, hnm, rfl⟩ := List.mem_map.1 hl'
        simp only [Function.comp_apply]
        have hlk : leadsB ms (ps ++ [nm]) = false := by
          cases h : leadsB ms (ps ++ [nm]) with
          | false => rfl
          | true =>
            obtain ⟨z, hz, h1⟩ := leads_iff.1 h
            rw [leads_iff.2 ⟨z, hz, (List.prefix_append ps [nm]).trans h1⟩] at hl; cases hl
        have hmem : nm ∈ namesOf x ∨ nm ∈ namesOf y := by rw [namesU_mem, List.mem_append] at hnm; exact hnm
        obtain ⟨_, _, _, _, h⟩ := quiet n ms (ps ++ [nm]) (kidT x nm) (kidT y nm) (kid_fineT hx nm) (kid_fineT hy nm) hlk (not_under_kid hu hlk) ((cov_kid hx hy hc).2 nm hnm) fun h => by
          rcases hmem with hm | hm
          · exact kid_there hx.1 hm h.1
          · exact kid_there hy.1 hm h.2
        exact h
theorem look_walk : ∀ (n : Nat) (ms : List Mk) (ps : List ByteArray) (a b : Option Tr), fineO n a → fineO n b → covP n ms ps a b = true → lookE n ms ps a b = walkE n ps a b
  | 0, _, _, _, _, _, _, _ => rfl
  | n + 1, _, _, none, none, _, _, _ => rfl
  | n + 1, _, _, none, some y, _, _, _ => rfl
  | n + 1, _, _, some x, none, _, _, _ => rfl
  | n + 1, ms, ps, some x, some y, ha, hb, hc => by
    have hx : fineT (n + 1) x := ha x rfl
    have hy : fineT (n + 1) y := hb y rfl
    by_cases hd : isDir x = isDir y
    · by_cases hu : underB ms ps = true
      · simp only [lookE]; rw [if_pos hd, if_pos hu]
      · have hu' : underB ms ps = false := by simpa using hu
        obtain ⟨c1, c2⟩ := cov_kid hx hy hc
        rw [(lookE_names hx hy hd hu').1]
        simp only [walkE]
        rw [if_pos hd, mrg_kids hx hy, List.map_map]
        congr 1
        · by_cases hm : markedB ms ps = true
          · rw [if_pos hm]
          · rw [if_neg hm]
            cases hdf : diffB (some x) (some y) with
            | true => exact absurd (c1 hdf) hm
            | false => exact (part_same hdf).2.symm
        · congr 1
          refine List.map_congr_left fun nm hnm => ?_
          simp only [Function.comp_apply]
          unfold lookW
          by_cases hl : leadsB ms (ps ++ [nm]) = true
          · rw [if_pos hl]
            exact look_walk n ms _ _ _ (kid_fineT hx nm) (kid_fineT hy nm) (c2 nm hnm)
          · rw [if_neg hl]
            have hl' : leadsB ms (ps ++ [nm]) = false := by simpa using hl
            have hmem : nm ∈ namesOf x ∨ nm ∈ namesOf y := by rw [namesU_mem, List.mem_append] at hnm; exact hnm
            obtain ⟨_, _, _, _, h⟩ := quiet n ms (ps ++ [nm]) (kidT x nm) (kidT y nm) (kid_fineT hx nm) (kid_fineT hy nm) hl' (not_under_kid hu' hl') (c2 nm hnm) fun h => by
              rcases hmem with hm | hm
              · exact kid_there hx.1 hm h.1
              · exact kid_there hy.1 hm h.2
            exact h.symm
    · simp only [lookE, walkE]; rw [if_neg hd, if_neg hd]
theorem covers_facts {n m : Nat} {x y : Tr} {ms : List Mk} (h : coversX n m x y ms = true) : (treeOk n x = true ∧ treeOk m y = true) ∧ trailOk ms = true ∧ covP 5 ms [] (some x) (some y) = true := by
  unfold coversX at h
  simp only [Bool.and_eq_true] at h
  exact h
theorem diffM_walk {n m : Nat} {x y : Tr} {ms : List Mk} (h : coversX n m x y ms = true) : (diffM n m x y ms).1 = diffX n m x y := by
  obtain ⟨h1, h2, h3⟩ := covers_facts h
  obtain ⟨_, fx, _⟩ := ok_fineT h1.1
  obtain ⟨_, fy, _⟩ := ok_fineT h1.2
  rw [diffX, if_pos h1]
  have fx' : fineO 5 (some x) := fun z hz => by cases hz; exact fx
  have fy' : fineO 5 (some y) := fun z hz => by cases hz; exact fy
  by_cases hl : 0 < ms.length
  · rw [diffM_yes ⟨⟨h1, h2⟩, hl⟩]
    exact look_walk 5 ms [] _ _ fx' fy' h3
  · rw [diffM_no fun h => hl h.2]
    have e : ms = [] := List.eq_nil_of_length_eq_zero (by omega)
    subst e
    obtain ⟨_, _, _, _, hw⟩ := quiet 5 [] [] (some x) (some y) fx' fy' rfl rfl h3 (fun h => by cases h.1)
    exact hw.symm
end Go.Proofs.YtkbhjejalkbogaaGreat

/- Two trees and a trail that are drawn; a trail and a mark that are drawn; trails compared. -/
set_option linter.unusedVariables false
set_option linter.unusedSimpArgs false
set_option maxRecDepth 20000
namespace Go.Proofs.YtkbhjejalkbogaaGreat
open Go Go.Av Go.RowKit

section
variable {w0 : World} {σ : Vw}

/-- Two drawn trees and a trail, beside the reader. -/
abbrev OutBM (w0 : World) (σ : Vw) (b p : Nat) (R : Value → Vw → Prop) : Prop := ∀ es (x : Tr) es' (y : Tr) v ms s, RD w0 s b p → Keeps (σ.del b) (s.del b) → RT 16 (Av.get w0 (s.del b)) es x → szT 16 x ≤ 50000000 → RT 16 (Av.get w0 (s.del b)) es' y → szT 16 y ≤ 50000000 → RSl 2 RMk (Av.get w0 (s.del b)) v ms → smallM 8 ms → R (.tuple ⟨[.agg ⟨es⟩, .agg ⟨es'⟩, v]⟩) s

theorem mark_row {s : Vw} {n n' : Nat} (hn : w0.heap.size ≤ n') (hr : s n' = some ⟨t_impl_Mark, [.slice (some ⟨n, 0, none⟩) 0 0, .bool true], 2, (0, 0)⟩) : RSl 2 RMk (Av.get w0 s) (.slice (some ⟨n', 0, none⟩) 1 1) [(([] : List ByteArray), true)] := by
  refine RSl.own (xs := [(([] : List ByteArray), true)]) (cs := [[.slice (some ⟨n, 0, none⟩) 0 0, .bool true]]) (tail := []) hn hr rfl (fun c hc => by rw [List.mem_singleton.1 hc]; rfl) rfl (by simp) fun j c x hj hx => ?_
  cases j with
  | zero => cases hj; cases hx; exact ⟨_, rfl, nilPath⟩
  | succ j => cases hj

set_option maxHeartbeats 4000000 in
theorem spec_l13Both {b p : Nat} (h : RD w0 σ b p) (hp : p ≤ 600000) {R : Value → Vw → Prop} (hR : OutBM w0 σ b (p + 3000) R) : AC Tryz.prog w0 n_spec_l13Both [ptr b] σ R := by
  refine ac_spec_l13Both ?_
  unfold vc_spec_l13Both cs_spec_l13Both_2 cs_spec_l13Both_1
  refine spec_l4Tree h (by omega) fun es x s1 hrd1 k1 hx hxs => ?_
  have hx0 := hx
  obtain ⟨f0, f1, f2, f3, f4, rfl, hp5⟩ := hx.shape
  rw [hp5]
  simp only [cellOf_agg, List.getD_cons_zero, List.getD_cons_succ]
  refine spec_pick (n := 24) hrd1 (by omega) (by omega) fun j s2 hj hrd2 hd2 _ => ?_
  have k2 : Keeps (s1.del b) (s2.del b) := by rw [hd2]; exact Keeps.refl _
  have K2 := k1.trans k2
  rw [pBin_eq, pIf_d]
  refine ⟨fun _ => ?_, fun _ => ?_⟩
  · refine spec_l4Spoil 11 hrd2 (by omega) (mono_rt _ _ _ _ _ k2.le hx0) (by omega) fun es5 x5 s6 hrd6 k6 hx5 hx5s => ?_
    have hx50 := hx5
    obtain ⟨a0, a1, a2, a3, a4, rfl, hp6⟩ := hx5.shape
    rw [hp6]
    simp only [cellOf_agg, List.getD_cons_zero, List.getD_cons_succ]
    have K6 := K2.trans k6
    have hq : ∀ n A, pVal true 2 (.agg ⟨[.slice (some (Addr.mk n 0 none)) 0 0, .bool true]⟩) A ↔ A := fun n A => pVal_2 rfl rfl
    have hs : ∀ n A, pVal false 1 (.slice (some (Addr.mk n 0 none)) 0 0) A ↔ A := fun n A => pVal1 rfl
    have hb : ∀ A, pVal false 1 (.bool true) A ↔ A := fun A => pVal1 rfl
    -- the trail made last
    have fin : ∀ {es' : List Value} {y : Tr} {s : Vw} {q n : Nat}, RD w0 s b q → q ≤ p + 3000 → Keeps (s6.del b) (s.del b) → RT 11 (Av.get w0 (s.del b)) es' y → szT 11 y ≤ 40000000 → pNew w0 t_impl_Mark [.slice (some (Addr.mk n 0 none)) 0 0, .bool true] s (fun n11 s12 => R (.tuple ⟨[.agg ⟨[a0, a1, a2, a3, a4]⟩, .agg ⟨es'⟩, .slice (some (Addr.mk n11 0 none)) 1 1]⟩) s12) := fun {es' y s q n} r1 r2 r3 r4 r5 n1 g1 g2 => by
      obtain ⟨hne, hrd', kk⟩ := r1.new (r := ⟨t_impl_Mark, [.slice (some (Addr.mk n 0 none)) 0 0, .bool true], 2, (0, 0)⟩) g2
      exact hR _ x5 _ y _ _ _ (hrd'.more r2) ((K6.trans r3).trans kk) (RT_le (by omega) (mono_rt _ _ _ _ _ (r3.trans kk).le hx50)) (by rw [sz_more hx50.isT (by omega)]; omega) (RT_le (by omega) (mono_rt _ _ _ _ _ kk.le r4)) (by rw [sz_more r4.isT (by omega)]; omega) (mark_row g1 (by rw [del_ne hne]; exact put_at)) ⟨by simp, fun m hm => by rw [List.mem_singleton.1 hm]; simp⟩
    refine ⟨?_, ?_⟩
    · refine spec_l4Tree hrd6 (by omega) fun es7 y s8 hrd8 k8 hy hys => ?_
      have hy0 := hy
      obtain ⟨c0, c1, c2, c3, c4, rfl, hp7⟩ := hy.shape
      simp only [cellOf_agg, List.getD_cons_zero, List.getD_cons_succ, hp6, hp7, hq, hs, hb, and_self]
      intro n9 g1 g2
      obtain ⟨hne, hrd9, k9⟩ := hrd8.new (r := ⟨t_string, [], 0, (0, 0)⟩) g2
      exact fin hrd9 (by omega) (k8.trans k9) (mono_rt _ _ _ _ _ k9.le hy0) hys
    · intro n27 g1 g2
      obtain ⟨hne, hrd9, k9⟩ := hrd6.new (r := ⟨t_string, [], 0, (0, 0)⟩) g2
      simp only [hs, hb]
      refine ⟨?_, ?_⟩
      · refine spec_l4Tree hrd9 (by omega) fun es7 y s8 hrd8 k8 hy hys => ?_
        have hy0 := hy
        obtain ⟨c0, c1, c2, c3, c4, rfl, hp7⟩ := hy.shape
        simp only [cellOf_agg, List.getD_cons_zero, List.getD_cons_succ, hp6, hp7, hq, and_self]
        exact fin hrd8 (by omega) (k9.trans k8) hy0 hys
      · rw [hq]
        intro n37 g3 g4
        obtain ⟨hne2, hrd10, k10⟩ := hrd9.new (r := ⟨t_impl_Mark, [.slice (some (Addr.mk n27 0 none)) 0 0, .bool true], 2, (0, 0)⟩) g4
        refine spec_l4Tree hrd10 (by omega) fun es7 y s8 hrd8 k8 hy hys => ?_
        have hy0 := hy
        obtain ⟨c0, c1, c2, c3, c4, rfl, hp7⟩ := hy.shape
        simp only [cellOf_agg, List.getD_cons_zero, List.getD_cons_succ, hp6, hp7]
        have kk := (k9.trans k10).trans k8
        exact hR _ x5 _ y _ _ _ (hrd8.more (by omega)) (K6.trans kk) (RT_le (by omega) (mono_rt _ _ _ _ _ kk.le hx50)) (by rw [sz_more hx50.isT (by omega)]; omega) (RT_le (by omega) hy0) (by rw [sz_more hy0.isT (by omega)]; omega) ((mark_row g3 (by rw [del_ne hne2]; exact put_at)).mono k8.le fun _ _ => mono_mk k8.le) ⟨by simp, fun m hm => by rw [List.mem_singleton.1 hm]; simp⟩
  · refine spec_pick (n := 10) hrd2 (by omega) (by omega) fun k s3 hk hrd3 hd3 _ => ?_
    have k3 : Keeps (s2.del b) (s3.del b) := by rw [hd3]; exact Keeps.refl _
    have K3 := K2.trans k3
    have hx3 := mono_rt _ _ _ _ _ (k2.trans k3).le hx0
    refine spec_l13Play hrd3 (by omega) (by omega) hx3 hxs fun es5 y v ms s4 hrd4 k4 hy hys hv hvs => ?_
    have hy0 := hy
    obtain ⟨c0, c1, c2, c3, c4, rfl, hp7⟩ := hy.shape
    rw [pExtract_s rfl, pExtract_s rfl, hp7]
    simp only [cellOf_agg, List.getD_cons_zero, List.getD_cons_succ]
    refine spec_pick (n := 8) hrd4 (by omega) (by omega) fun j2 s5 hj2 hrd5 hd5 _ => ?_
    have k5 : Keeps (s4.del b) (s5.del b) := by rw [hd5]; exact Keeps.refl _
    have K5 := (K3.trans k4).trans k5
    have hx5 := mono_rt _ _ _ _ _ (k4.trans k5).le hx3
    have hy5 := mono_rt _ _ _ _ _ k5.le hy0
    have hv5 := hv.mono k5.le fun _ _ => mono_mk k5.le
    have e1 : szT 16 x ≤ 50000000 := by rw [sz_more hx0.isT (by omega)]; omega
    have e2 : szT 16 y ≤ 50000000 := by rw [sz_more hy0.isT (by omega)]; omega
    rw [pBin_eq, pIf_d]
    refine ⟨fun _ => ?_, fun _ => ?_⟩
    · refine spec_l13Any hrd5 (by omega) hy5 (by omega) fun v' ms' s6 hrd6 k6 hv' hvs' => ?_
      rw [hp5, hp7]
      exact hR _ x _ y v' ms' s6 (hrd6.more (by omega)) (K5.trans k6) (RT_le (by omega) (mono_rt _ _ _ _ _ k6.le hx5)) e1 (RT_le (by omega) (mono_rt _ _ _ _ _ k6.le hy5)) e2 hv' hvs'
    · rw [pBin_eq, pIf_d]
      refine ⟨fun _ => ?_, fun _ => ?_⟩
      · rw [hp5, hp5]
        exact hR _ x _ x v ms s5 (hrd5.more (by omega)) K5 (RT_le (by omega) hx5) e1 (RT_le (by omega) hx5) e1 hv5 (hvs.more (by omega))
      · rw [hp5, hp7]
        exact hR _ x _ y v ms s5 (hrd5.more (by omega)) K5 (RT_le (by omega) hx5) e1 (RT_le (by omega) hy5) e2 hv5 (hvs.more (by omega))

/-- Two drawn trees and a trail. -/
abbrev OutT2M (w0 : World) (σ : Vw) (R : Value → Vw → Prop) : Prop := ∀ es (x : Tr) es' (y : Tr) v ms s, Keeps σ s → RT 16 (Av.get w0 s) es x → szT 16 x ≤ 50000000 → RT 16 (Av.get w0 s) es' y → szT 16 y ≤ 50000000 → RSl 2 RMk (Av.get w0 s) v ms → smallM 8 ms → R (.tuple ⟨[.agg ⟨es⟩, .agg ⟨es'⟩, v]⟩) s
theorem spec_DrawTrailDiff {u : Value} {bs : List Nat} (h : Bytes w0 u bs) {R : Value → Vw → Prop} (hR : OutT2M w0 σ R) : AC Tryz.prog w0 n_spec_DrawTrailDiff [u] σ R := by
  refine ac_spec_DrawTrailDiff ?_
  unfold vc_spec_DrawTrailDiff
  refine spec_l1Open h fun b s1 hrd1 hd1 hb1 => ?_
  refine spec_l13Both hrd1 (by omega) fun es x es' y v ms s2 hrd2 k2 hx hxs hy hys hv hvs => ?_
  have hx0 := hx
  have hy0 := hy
  obtain ⟨f0, f1, f2, f3, f4, rfl, hp5⟩ := hx.shape
  obtain ⟨g0, g1, g2, g3, g4, rfl, hp6⟩ := hy.shape
  rw [pExtract_s rfl, pExtract_s rfl, pExtract_s rfl, hp5, hp6]
  simp only [cellOf_agg, List.getD_cons_zero, List.getD_cons_succ]
  exact hR _ x _ y v ms s2 (draw_keeps hd1 k2) (mono_rt _ _ _ _ _ del_le hx0) hxs (mono_rt _ _ _ _ _ del_le hy0) hys (hv.mono del_le fun _ _ => mono_mk del_le) hvs

/-! ### Compared -/
end
end Go.Proofs.YtkbhjejalkbogaaGreat

/- Entries compared; where there is no difference; the law 'DiffNone', of the functions alone. -/
set_option linter.unusedVariables false
set_option linter.unusedSimpArgs false
set_option maxRecDepth 20000
namespace Go.Proofs.YtkbhjejalkbogaaGreat
open Go Go.Av Go.RowKit

section
variable {w0 : World} {σ : Vw}

theorem wtEntries {v v' : Value} {xs ys : List En} (h : RSl 5 REn (Av.get w0 σ) v xs) (h' : RSl 5 REn (Av.get w0 σ) v' ys) {R : Value → Vw → Prop} (hR : R (.bool (decide (xs = ys))) σ) : AC Tryz.prog w0 n_laws_wtEntries [v, v'] σ R := by
  refine ac_laws_wtEntries ?_
  unfold vc_laws_wtEntries
  have hl : xs.length ≤ 9223372036854775807 := h.le
  rw [h.len, h'.len, pBin_ne, pIf_d]
  refine ⟨fun hne => ?_, fun heq => ?_⟩
  · have : xs ≠ ys := fun e => hne (by rw [e])
    simpa [this] using hR
  have hlen : xs.length = ys.length := by omega
  refine loop_rule (m := xs.length) (fun m l s => ∃ j, s = σ ∧ m + j = xs.length ∧ xs.take j = ys.take j ∧ l = [v, v', .bool false, .int .i64 (j : Nat)]) ?_ ⟨0, rfl, by omega, by simp, rfl⟩
  rintro m l s L ⟨j, rfl, hm, ht, rfl⟩ hL
  simp only [vget, List.getD_cons_zero, List.getD_cons_succ]
  rw [h.len, pBin_lt, pIf_d]
  refine ⟨fun hj => ?_, fun hj => ?_⟩
  · have hx := List.getElem?_eq_getElem (show j < xs.length by omega)
    have hy := List.getElem?_eq_getElem (show j < ys.length by omega)
    generalize hxe : xs[j]'(by omega) = x at hx
    generalize hye : ys[j]'(by omega) = y at hy
    have no : x ≠ y → R (.bool false) s := fun hne => by
      have : xs ≠ ys := fun e => hne (by rw [← hxe, ← hye]; simp [e])
      simpa [this] using hR
    refine RSl.atf h hx 0 (by omega) fun es g r q => ?_
    obtain ⟨u, rfl, ru, _⟩ := r
    simp only [List.getElem?_cons_zero, Option.some.injEq] at q
    refine RSl.atf h' hy 0 (by omega) fun es' g' r' q' => ?_
    obtain ⟨w, rfl, rw', _⟩ := r'
    simp only [List.getElem?_cons_zero, Option.some.injEq] at q'
    rw [← q, ← q']
    refine wtTexts ru rw' ?_
    rw [pUn_not, pIf_b]
    refine ⟨fun hne => no fun e => (by subst e; simp at hne), fun e0 => ?_⟩
    have e0 : x.1 = y.1 := by simpa using e0
    refine RSl.atf h hx 1 (by omega) fun es g r q => ?_
    obtain ⟨u, rfl, _⟩ := r
    simp only [List.getElem?_cons_zero, List.getElem?_cons_succ, Option.some.injEq] at q
    refine RSl.atf h' hy 1 (by omega) fun es' g' r' q' => ?_
    obtain ⟨w, rfl, _⟩ := r'
    simp only [List.getElem?_cons_zero, List.getElem?_cons_succ, Option.some.injEq] at q'
    rw [← q, ← q', pBin_ne, pIf_d]
    refine ⟨fun hne => no fun e => hne (by rw [e]), fun e1 => ?_⟩
    have e1 := Decidable.not_not.1 e1
    refine RSl.atf h hx 2 (by omega) fun es g r q => ?_
    obtain ⟨u, rfl, _⟩ := r
    simp only [List.getElem?_cons_zero, List.getElem?_cons_succ, Option.some.injEq] at q
    refine RSl.atf h' hy 2 (by omega) fun es' g' r' q' => ?_
    obtain ⟨w, rfl, _⟩ := r'
    simp only [List.getElem?_cons_zero, List.getElem?_cons_succ, Option.some.injEq] at q'
    have eb : ∀ (p q : Bool) (K : Value → Prop), pBin Tryz.prog 4 .neq (.bool p) (.bool q) K ↔ K (.bool !(p == q)) := fun p q K => pBin_b (by kernel_rfl) rfl
    rw [← q, ← q', eb, pIf_b]
    refine ⟨fun hne => no fun e => (by subst e; simp at hne), fun e2 => ?_⟩
    have e2 : x.2.2.1 = y.2.2.1 := by simpa using e2
    refine RSl.atf h hx 3 (by omega) fun es g r q => ?_
    obtain ⟨u, rfl, _⟩ := r
    simp only [List.getElem?_cons_zero, List.getElem?_cons_succ, Option.some.injEq] at q
    refine RSl.atf h' hy 3 (by omega) fun es' g' r' q' => ?_
    obtain ⟨w, rfl, _⟩ := r'
    simp only [List.getElem?_cons_zero, List.getElem?_cons_succ, Option.some.injEq] at q'
    rw [← q, ← q', pBin_ne, pIf_d]
    refine ⟨fun hne => no fun e => hne (by rw [e]), fun e3 => ?_⟩
    have e3 := Decidable.not_not.1 e3
    refine RSl.atf h hx 4 (by omega) fun es g r q => ?_
    obtain ⟨u, rfl, _⟩ := r
    simp only [List.getElem?_cons_zero, List.getElem?_cons_succ, Option.some.injEq] at q
    refine RSl.atf h' hy 4 (by omega) fun es' g' r' q' => ?_
    obtain ⟨w, rfl, _⟩ := r'
    simp only [List.getElem?_cons_zero, List.getElem?_cons_succ, Option.some.injEq] at q'
    rw [← q, ← q', pBin_sne, pIf_d]
    refine ⟨fun hne => no fun e => hne (by rw [e]), fun e4 => ?_⟩
    have e4 := Decidable.not_not.1 e4
    rw [pBin_add (by omega)]
    refine hL _ _ (m - 1) (by omega) ⟨j + 1, rfl, by omega, ?_, rfl⟩
    have exy : x = y := by
      obtain ⟨a1, a2, a3, a4, a5⟩ := x
      obtain ⟨b1, b2, b3, b4, b5⟩ := y
      simp only at e0 e1 e2 e3 e4
      rw [e0, e1, e2, e3, e4]
    rw [List.take_add_one, List.take_add_one, hx, hy, ht, exy]
  · have hj' : j = xs.length := by omega
    subst hj'
    rw [List.take_length, hlen, List.take_length] at ht
    subst ht
    simpa using hR

end
end Go.Proofs.YtkbhjejalkbogaaGreat

/- The laws TrailMore and TrailAdd. -/
set_option linter.unusedVariables false
set_option linter.unusedSimpArgs false
set_option maxRecDepth 20000
namespace Go.Proofs.YtkbhjejalkbogaaGreat
open Go Go.Av Go.RowKit

section
variable {w0 : World} {σ : Vw}

end
end Go.Proofs.YtkbhjejalkbogaaGreat

/- The law 'TreeSee', of the functions alone. -/
set_option linter.unusedVariables false
set_option linter.unusedSimpArgs false
set_option maxRecDepth 20000
namespace Go.Proofs.YtkbhjejalkbogaaGreat
open Go Go.Av Go.RowKit

theorem atT_snoc : ∀ (ps : List ByteArray) (x : Tr) (nm : ByteArray), atT x (ps ++ [nm]) = (atT x ps).bind fun y => kidT y nm
  | [], x, nm => by
    have h1 : atT x ([] ++ [nm]) = (kidT x nm).bind fun k => atT k [] := by cases x; rfl
    have h2 : atT x [] = some x := by cases x; rfl
    rw [h1, h2]
    show _ = kidT x nm
    cases kidT x nm with
    | none => rfl
    | some k => cases k; rfl
  | p :: r, x, nm => by
    have h1 : atT x ((p :: r) ++ [nm]) = (kidT x p).bind fun k => atT k (r ++ [nm]) := by cases x; rfl
    have h2 : atT x (p :: r) = (kidT x p).bind fun k => atT k r := by cases x; rfl
    rw [h1, h2]
    cases kidT x p with
    | none => rfl
    | some k => exact atT_snoc r k nm
section
variable {w0 : World} {σ : Vw}

end
end Go.Proofs.YtkbhjejalkbogaaGreat

/- How much looking costs: pure. -/
set_option linter.unusedVariables false
set_option linter.unusedSimpArgs false
set_option maxRecDepth 20000
namespace Go.Proofs.YtkbhjejalkbogaaGreat
open Go Go.Av

/-! ### Sums over marks -/
def sumW (ms : List Mk) (g : Mk → Nat) (P : List ByteArray) : Nat := sumBy (fun m : Mk => if within m.1 P = true then g m else 0) ms
def numM (ms : List Mk) (P : List ByteArray) : Nat := sumW ms (fun _ => 1) P
def lenM (ms : List Mk) (P : List ByteArray) : Nat := sumW ms (fun m => m.1.length - P.length) P
def subM (ms : List Mk) (u : List ByteArray → Nat) (P : List ByteArray) : Nat := sumW ms (fun m => if m.2 = true then u m.1 else 0) P

theorem sumBy_plus {α : Type} {f g : α → Nat} : ∀ {l : List α}, sumBy (fun x => f x + g x) l = sumBy f l + sumBy g l
  | [] => rfl
  | a :: r => by simp only [sumBy, sumBy_plus (l := r)]; omega
theorem sumBy_zero {α : Type} {f : α → Nat} : ∀ {l : List α}, (∀ x, x ∈ l → f x = 0) → sumBy f l = 0
  | [], _ => rfl
  | a :: r, h => by simp only [sumBy, h a List.mem_cons_self, sumBy_zero fun x hx => h x (List.mem_cons_of_mem _ hx)]
theorem sumBy_le2 {α : Type} {f g : α → Nat} : ∀ {l : List α}, (∀ x, x ∈ l → f x ≤ g x) → sumBy f l ≤ sumBy g l
  | [], _ => Nat.le_refl _
  | a :: r, h => by
    have h1 := h a List.mem_cons_self
    have h2 := sumBy_le2 fun x hx => h x (List.mem_cons_of_mem a hx)
    simp only [sumBy]; omega
theorem sumBy_one_of {a : ByteArray} {c : Nat} : ∀ {l : List ByteArray}, l.Nodup → sumBy (fun nm => if nm = a then c else 0) l ≤ c
  | [], _ => Nat.zero_le _
  | b :: r, h => by
    have hn := List.nodup_cons.1 h
    by_cases e : b = a
    · subst e
      have : sumBy (fun nm => if nm = b then c else 0) r = 0 := sumBy_zero fun x hx => by rw [if_neg]; rintro rfl; exact hn.1 hx
      simp only [sumBy, this, if_pos]; omega
    · simp only [sumBy, if_neg e, Nat.zero_add]
      exact sumBy_one_of hn.2
/-- One mark lies within one name at most. -/
theorem in_one {g : Mk → Nat} {P : List ByteArray} {names : List ByteArray} (hn : names.Nodup) (m : Mk) :
    sumBy (fun nm => if within m.1 (P ++ [nm]) = true then g m else 0) names + (if m.1 = P then g m else 0) ≤ if within m.1 P = true then g m else 0 := by
  by_cases hw : within m.1 P = true
  · rw [if_pos hw]
    obtain ⟨r, hr⟩ := within_iff.1 hw
    cases r with
    | nil =>
      rw [List.append_nil] at hr
      rw [if_pos hr.symm, sumBy_zero fun nm _ => ?_]
      · omega
      · rw [if_neg]
        intro h
        have := (within_iff.1 h).length_le
        rw [← hr, List.length_append] at this
        simp only [List.length_singleton] at this
        omega
    | cons a r =>
      have hne : m.1 ≠ P := fun e => by rw [e] at hr; simpa using congrArg List.length hr
      rw [if_neg hne]
      have : sumBy (fun nm => if within m.1 (P ++ [nm]) = true then g m else 0) names ≤ sumBy (fun nm => if nm = a then g m else 0) names := sumBy_le2 fun nm _ => by
        by_cases h : within m.1 (P ++ [nm]) = true
        · have h1 := within_iff.1 h
          rw [← hr] at h1
          have h2 : [nm] <+: a :: r := (List.prefix_append_right_inj P).1 h1
          have h3 : nm = a := by
            obtain ⟨t, ht⟩ := h2
            simp at ht
            exact ht.1
          rw [if_pos h, if_pos h3]; exact Nat.le_refl _
        · rw [if_neg h]; exact Nat.zero_le _
      have := sumBy_one_of (a := a) (c := g m) hn
      omega
  · rw [if_neg hw, if_neg (fun e => hw (within_iff.2 (by rw [e]; exact List.prefix_refl _))), sumBy_zero fun nm _ => ?_]
    · exact Nat.le_refl _
    · rw [if_neg]
      exact fun h => hw (within_iff.2 ((List.prefix_append P [nm]).trans (within_iff.1 h)))
theorem sum_swap {g : Mk → Nat} {P : List ByteArray} {names : List ByteArray} (hn : names.Nodup) : ∀ ms : List Mk,
    sumBy (fun nm => sumW ms g (P ++ [nm])) names + sumBy (fun m => if m.1 = P then g m else 0) ms ≤ sumW ms g P
  | [] => by
    simp only [sumW, sumBy]
    rw [sumBy_zero fun _ _ => rfl]
    exact Nat.le_refl _
  | m :: ms => by
    have h1 := in_one (g := g) (P := P) hn m
    have h2 := sum_swap (g := g) (P := P) hn ms
    have e : sumBy (fun nm => sumW (m :: ms) g (P ++ [nm])) names = sumBy (fun nm => if within m.1 (P ++ [nm]) = true then g m else 0) names + sumBy (fun nm => sumW ms g (P ++ [nm])) names := by
      rw [← sumBy_plus]; rfl
    rw [e]
    have e2 : sumW (m :: ms) g P = (if within m.1 P = true then g m else 0) + sumW ms g P := rfl
    have e3 : sumBy (fun m => if m.1 = P then g m else 0) (m :: ms) = (if m.1 = P then g m else 0) + sumBy (fun m => if m.1 = P then g m else 0) ms := rfl
    rw [e2, e3]; omega
theorem sum_at {g : Mk → Nat} {P : List ByteArray} {ms : List Mk} {m : Mk} (hm : m ∈ ms) (h : P <+: m.1) : g m ≤ sumW ms g P := by
  have := sumBy_mem (f := fun m : Mk => if within m.1 P = true then g m else 0) hm
  rw [if_pos (within_iff.2 h)] at this
  exact this
theorem asc_nodup {l : List ByteArray} (h : AscS l) : l.Nodup := List.Pairwise.imp (fun {a b} hab e => by subst e; rw [strLt_irrefl] at hab; cases hab) h
/-- What is within the names is one less deep. -/
theorem len_swap {ms : List Mk} {P : List ByteArray} {names : List ByteArray} (hn : names.Nodup) : sumBy (fun nm => lenM ms (P ++ [nm]) + numM ms (P ++ [nm])) names ≤ lenM ms P := by
  have h1 := sum_swap (g := fun m => m.1.length - P.length) (P := P) hn ms
  have h2 : sumBy (fun nm => lenM ms (P ++ [nm]) + numM ms (P ++ [nm])) names ≤ sumBy (fun nm => sumW ms (fun m => m.1.length - P.length) (P ++ [nm])) names := sumBy_le2 fun nm _ => by
    unfold lenM numM sumW
    rw [← sumBy_plus]
    refine sumBy_le2 fun m _ => ?_
    by_cases h : within m.1 (P ++ [nm]) = true
    · have := (within_iff.1 h).length_le
      rw [if_pos h, if_pos h, if_pos h]
      rw [List.length_append] at this ⊢
      simp only [List.length_singleton] at this ⊢; omega
    · rw [if_neg h, if_neg h, if_neg h]; exact Nat.le_refl _
  unfold lenM at h1 ⊢
  unfold lenM at h2
  omega

/-! ### Levels; files have no kids -/
theorem un_up : ∀ (n : Nat) (a b : Option Tr), fineO n a → fineO n b → unT (n + 1) a b = unT n a b
  | 0, none, none, _, _ => rfl
  | 0, some x, _, h, _ => ((h x rfl).1).elim
  | 0, none, some x, _, h => ((h x rfl).1).elim
  | n + 1, none, none, _, _ => rfl
  | n + 1, none, some b, _, hb => by
    show cntT (n + 1 + 1) b + 1 = cntT (n + 1) b + 1
    rw [cnt_up (hb b rfl).1]
  | n + 1, some a, none, ha, _ => by
    show cntT (n + 1 + 1) a + 1 = cntT (n + 1) a + 1
    rw [cnt_up (ha a rfl).1]
  | n + 1, some a, some b, ha, hb => by
    show 1 + sumBy _ (mrgK (partsOf a) (partsOf b)) = 1 + sumBy _ (mrgK (partsOf a) (partsOf b))
    have ha' := ha a rfl
    have hb' := hb b rfl
    rw [mrg_kids ha' hb', sumBy_map', sumBy_map', sumBy_congr fun nm _ => un_up n _ _ (kid_fineT ha' nm) (kid_fineT hb' nm)]
theorem un_level {n : Nat} {a b : Option Tr} (ha : fineO n a) (hb : fineO n b) : ∀ k, unT (n + k) a b = unT n a b
  | 0 => rfl
  | k + 1 => by
    have up : ∀ k {o : Option Tr}, fineO n o → fineO (n + k) o := fun k o ho => by
      induction k with
      | zero => exact ho
      | succ k ih => exact fun x hx => fine_up (ih x hx)
    rw [← un_level ha hb k]
    exact un_up (n + k) a b (up k ha) (up k hb)
def clsT : Nat → Tr → Prop
  | 0, _ => True
  | n + 1, .mk d m t ns ks => (d = false → ns = []) ∧ ∀ k, k ∈ ks → clsT n k
def clsO (n : Nat) (o : Option Tr) : Prop := ∀ x, o = some x → clsT n x
theorem sound_cls : ∀ (m n : Nat) (x : Tr) (k : Int), soundB n x k = true → clsT m x
  | 0, _, _, _, _ => trivial
  | m + 1, 0, x, k, h => by simp [soundB] at h
  | m + 1, n + 1, .mk d mo t ns ks, k, h => by
    simp only [soundB, Bool.and_eq_true, decide_eq_true_eq] at h
    refine ⟨fun hd => ?_, fun y hy => ?_⟩
    · subst hd
      have := h.1
      simp [plainB] at this
      exact this.2.2.2
    · obtain ⟨i, hi⟩ := List.getElem?_of_mem hy
      exact sound_cls m n y _ (allB_iff.1 h.2.2 i y hi)
theorem cls_kid {n : Nat} {x k : Tr} (h : clsT (n + 1) x) (hk : k ∈ kidsOf x) : clsT n k := by
  obtain ⟨d, m, t, ns, ks⟩ := x
  exact h.2 k hk
theorem cls_file {n : Nat} {x : Tr} (h : clsT (n + 1) x) (hd : isDir x = false) : namesOf x = [] := by
  obtain ⟨d, m, t, ns, ks⟩ := x
  exact h.1 hd
theorem kid_no {x : Tr} (h : namesOf x = []) (nm : ByteArray) : kidT x nm = none := by
  obtain ⟨d, m, t, ns, ks⟩ := x
  have h : ns = [] := h
  subst h
  simp only [kidT]
  rw [nidx_none fun i y hy => by simp at hy]; rfl
theorem cnt_names {n : Nat} {b : Tr} (h : fineT (n + 1) b) : cntT (n + 1) b = sumBy (fun nm => cntO n (kidT b nm)) (namesOf b) := by
  have h1 : sumBy (fun nm => cntO n (kidT b nm)) (namesOf b) = sumBy (fun y : ByteArray × Tr => cntO n (kidT b y.1)) (partsOf b) := by
    rw [← part_names h.1, sumBy_map']
  have h2 : sumBy (fun y : ByteArray × Tr => cntO n (kidT b y.1)) (partsOf b) = sumBy (fun y : ByteArray × Tr => cntT n y.2 + 1) (partsOf b) := sumBy_congr fun y hy => by
    rw [kid_lk h.1, lk_self (by rw [part_names h.1]; exact fine_asc h) y hy]; rfl
  rw [h1, h2]
  obtain ⟨d, m, t, ns, ks⟩ := b
  exact (zip_sum' (f := cntT n) (ns := ns) (ks := ks) h.1.2.2.1).symm
theorem un_none {n : Nat} {b : Tr} (h : fineT n b) : unT n none (some b) = cntT n b + 1 := by
  cases n with
  | zero => exact h.1.elim
  | succ n => rfl
theorem un_ge {n : Nat} {a : Option Tr} {b : Tr} (ha : fineO (n + 1) a) (hb : fineT (n + 1) b) (hn : namesOf (a.getD zeroT) = []) : unT (n + 1) a (some b) = cntT (n + 1) b + 1 := by
  cases a with
  | none => rfl
  | some z =>
    have hp : partsOf z = [] := by
      unfold partsOf
      rw [show namesOf z = [] from hn]; rfl
    show 1 + sumBy _ (mrgK (partsOf z) (partsOf b)) = _
    rw [hp, mrgK_nil', sumBy_map']
    have : sumBy (fun y : ByteArray × Tr => unT n none (some y.2)) (partsOf b) = sumBy (fun y : ByteArray × Tr => cntT n y.2 + 1) (partsOf b) := sumBy_congr fun y hy => un_none (fine_kid hb (parts_kid hy).1)
    show 1 + sumBy (fun y : ByteArray × Tr => unT n none (some y.2)) (partsOf b) = _
    rw [this]
    obtain ⟨d, m, t, ns, ks⟩ := b
    have := zip_sum' (f := cntT n) (ns := ns) (ks := ks) hb.1.2.2.1
    show 1 + sumBy _ (ns.zip ks) = (ks.length + sumBy (cntT n) ks) + 1
    omega
theorem no_anc {ms : List Mk} {P : List ByteArray} (hu : ¬ underB ms P = true) (nm : ByteArray) : ∀ m, m ∈ ms → m.2 = true → m.1 <+: P ++ [nm] → m.1 = P ++ [nm] := fun m hm h2 hp => by
  rcases prefix_snoc hp with e | e
  · exact absurd (under_iff.2 ⟨m, hm, h2, e⟩) hu
  · exact e

/-! ### The cost -/
/-- What is only there in the second tree, all of it marked. -/
theorem lin_bound {x y : Tr} {ms : List Mk} : ∀ (n : Nat) (P : List ByteArray) (a : Option Tr) (b : Tr), P.length + n = 5 → atT x P = a → atT y P = some b → fineO n a → fineT n b → namesOf (a.getD zeroT) = [] → diffB a (some b) = true → covP n ms P a (some b) = true →
    (∀ m, m ∈ ms → m.2 = true → m.1 <+: P → m.1 = P) → cntT n b + 1 ≤ numM ms P + subM ms (fun q => unT 5 (atT x q) (atT y q)) P
  | 0, _, _, _, _, _, _, _, hb, _, _, _, _ => hb.1.elim
  | n + 1, P, a, b, hl, ea, eb, ha, hb, hn, hd, hc, hanc => by
    rw [covP_names (a := a) (b := some b) (fine_getD ha) (fine_getD fun z hz => by cases hz; exact hb), Bool.and_eq_true, hd] at hc
    have hm : markedB ms P = true := by simpa using hc.1
    by_cases hu : underB ms P = true
    · obtain ⟨m, hmem, h1, h2⟩ := under_iff.1 hu
      have e := hanc m hmem h1 h2
      have h3 := sum_at (g := fun m : Mk => if m.2 = true then unT 5 (atT x m.1) (atT y m.1) else 0) hmem (show P <+: m.1 by rw [e]; exact List.prefix_refl _)
      simp only [h1, if_true] at h3
      rw [e, ea, eb, show 5 = (n + 1) + P.length by omega, un_level ha (fun z hz => by cases hz; exact hb), un_ge ha hb hn] at h3
      simp only [subM]
      rw [show (5 : Nat) = (n + 1) + P.length by omega]
      omega
    · rcases marked_iff.1 hm with h | ⟨m, hmem, e⟩
      · exact absurd (under_iff.2 h) hu
      have hnd := asc_nodup (fine_asc hb)
      have s1 := sum_swap (g := fun _ => 1) (P := P) hnd ms
      have s2 := sum_swap (g := fun m : Mk => if m.2 = true then unT 5 (atT x m.1) (atT y m.1) else 0) (P := P) hnd ms
      have s3 := sumBy_mem (f := fun m : Mk => if m.1 = P then 1 else 0) hmem
      rw [if_pos e] at s3
      have s4 : sumBy (fun nm => cntO n (kidT b nm)) (namesOf b) ≤ sumBy (fun nm => numM ms (P ++ [nm]) + subM ms (fun q => unT 5 (atT x q) (atT y q)) (P ++ [nm])) (namesOf b) := sumBy_le2 fun nm hnm => by
        cases hk : kidT b nm with
        | none => exact Nat.zero_le _
        | some k =>
          have hka : kidT (a.getD zeroT) nm = none := kid_no hn nm
          have hcov := List.all_eq_true.1 hc.2 nm (by rw [namesU_mem, List.mem_append]; exact .inr hnm)
          have hcov : covP n ms (P ++ [nm]) none (some k) = true := by
            have e1 : kidT ((some b).getD zeroT) nm = some k := hk
            rw [hka, e1] at hcov; exact hcov
          refine lin_bound n (P ++ [nm]) none k (by rw [List.length_append]; simp only [List.length_singleton]; omega) ?_ (by rw [atT_snoc, eb]; exact hk) (fun z hz => by cases hz) (fine_kid hb (kid_mem hk)) rfl rfl hcov (no_anc hu nm)
          rw [atT_snoc, ea]
          cases a with
          | none => rfl
          | some z => exact hka
      rw [sumBy_plus] at s4
      rw [cnt_names hb]
      simp only [numM, subM] at s4 ⊢
      omega

theorem look_bound {x y : Tr} {ms : List Mk} : ∀ (n : Nat) (P : List ByteArray) (a b : Option Tr), P.length + n = 5 → atT x P = a → atT y P = b → fineO n a → fineO n b → clsO n a → clsO n b → covP n ms P a b = true → (∃ m, m ∈ ms ∧ P <+: m.1) →
    (∀ m, m ∈ ms → m.2 = true → m.1 <+: P → m.1 = P) → lookN n ms P a b ≤ lenM ms P + numM ms P + subM ms (fun q => unT 5 (atT x q) (atT y q)) P
  | 0, _, _, _, _, _, _, _, _, _, _, _, _, _ => by simp [lookN]
  | n + 1, P, none, none, _, _, _, _, _, _, _, _, _, _ => by simp [lookN]
  | n + 1, P, none, some b, hl, ea, eb, ha, hb, _, _, hc, _, hanc => by
    have := lin_bound (n + 1) P none b hl ea eb ha (hb b rfl) rfl rfl hc hanc
    simp only [lookN]; omega
  | n + 1, P, some a, none, _, _, _, _, _, _, _, _, ⟨m, hm, hp⟩, _ => by
    have := sum_at (g := fun _ => 1) hm hp
    simp only [lookN]
    unfold numM; omega
  | n + 1, P, some a, some b, hl, ea, eb, ha, hb, ca, cb, hc, ⟨m, hm, hp⟩, hanc => by
    have ha' := ha a rfl
    have hb' := hb b rfl
    have h1 := sum_at (g := fun _ => 1) hm hp
    by_cases hd : isDir a = isDir b
    · by_cases hu : underB ms P = true
      · obtain ⟨m', hmem, q1, q2⟩ := under_iff.1 hu
        have e := hanc m' hmem q1 q2
        have h3 := sum_at (g := fun m : Mk => if m.2 = true then unT 5 (atT x m.1) (atT y m.1) else 0) hmem (show P <+: m'.1 by rw [e]; exact List.prefix_refl _)
        simp only [q1, if_true] at h3
        rw [e, ea, eb, show 5 = (n + 1) + P.length by omega, un_level ha hb] at h3
        simp only [lookN]
        rw [if_pos hd, if_pos hu]
        simp only [subM]
        rw [show (5 : Nat) = (n + 1) + P.length by omega]
        omega
      · have hu' : underB ms P = false := by simpa using hu
        rw [(lookE_names ha' hb' hd hu').2]
        have hcov := (cov_kid ha' hb' hc).2
        have hnd := asc_nodup (namesU_asc (namesOf a ++ namesOf b))
        have s1 := len_swap (ms := ms) (P := P) hnd
        have s2 := sum_swap (g := fun m : Mk => if m.2 = true then unT 5 (atT x m.1) (atT y m.1) else 0) (P := P) hnd ms
        have s4 : sumBy (lookV n ms P a b) (namesU (namesOf a ++ namesOf b)) ≤ sumBy (fun nm => (lenM ms (P ++ [nm]) + numM ms (P ++ [nm])) + subM ms (fun q => unT 5 (atT x q) (atT y q)) (P ++ [nm])) (namesU (namesOf a ++ namesOf b)) := sumBy_le2 fun nm hnm => by
          unfold lookV
          split
          · rename_i hld
            obtain ⟨m2, hm2, hp2⟩ := leads_iff.1 hld
            exact look_bound n (P ++ [nm]) _ _ (by rw [List.length_append]; simp only [List.length_singleton]; omega) (by rw [atT_snoc, ea]; rfl) (by rw [atT_snoc, eb]; rfl) (kid_fineT ha' nm) (kid_fineT hb' nm) (fun z hz => cls_kid (ca a rfl) (kid_mem hz)) (fun z hz => cls_kid (cb b rfl) (kid_mem hz)) (hcov nm hnm) ⟨m2, hm2, hp2⟩ (no_anc hu nm)
          · exact Nat.zero_le _
        rw [sumBy_plus] at s4
        simp only [numM, subM] at s4 s1 ⊢
        omega
    · simp only [lookN]
      rw [if_neg hd]
      have hdf : diffB (some a) (some b) = true := by
        unfold diffB
        simp [hd]
      cases hda : isDir a with
      | false =>
        have := lin_bound (n + 1) P (some a) b hl ea eb ha hb' (cls_file (ca a rfl) hda) hdf hc hanc
        omega
      | true =>
        have hdb : isDir b = false := by
          cases h : isDir b with
          | false => rfl
          | true => rw [hda, h] at hd; exact absurd rfl hd
        have e := cnt_names hb'
        rw [cls_file (cb b rfl) hdb] at e
        have e : cntT (n + 1) b = 0 := e
        unfold numM
        omega
theorem cost_ok {n m : Nat} {x y : Tr} {ms : List Mk} (h : coversX n m x y ms = true) : (diffM n m x y ms).2 ≤ 8 * ms.length + belowX n m x y ms := by
  obtain ⟨h1, h2, h3⟩ := covers_facts h
  obtain ⟨_, fx, _⟩ := ok_fineT h1.1
  obtain ⟨_, fy, _⟩ := ok_fineT h1.2
  by_cases hl : 0 < ms.length
  · rw [diffM_yes ⟨⟨h1, h2⟩, hl⟩, belowX, if_pos ⟨h1, h2⟩]
    obtain ⟨m0, hm0⟩ : ∃ m0, m0 ∈ ms := ⟨ms[0], List.getElem_mem hl⟩
    have cx : ∀ {k : Nat} {z : Tr}, treeOk k z = true → clsT 5 z := fun {k z} hz => by
      simp only [treeOk, Bool.and_eq_true, decide_eq_true_eq] at hz
      exact sound_cls 5 _ _ _ hz.2.1
    have e0 : ∀ z : Tr, atT z [] = some z := fun z => by cases z; rfl
    have := look_bound (x := x) (y := y) (ms := ms) 5 [] (some x) (some y) rfl (e0 x) (e0 y) (fun z hz => by cases hz; exact fx) (fun z hz => by cases hz; exact fy) (fun z hz => by cases hz; exact cx h1.1) (fun z hz => by cases hz; exact cx h1.2) h3 ⟨m0, hm0, List.nil_prefix⟩ fun m _ _ hp => List.prefix_nil.1 hp
    have w : ∀ m : Mk, within m.1 [] = true := fun m => within_iff.2 List.nil_prefix
    have q1 : lenM ms [] ≤ 4 * ms.length := by
      have : ∀ l : List Mk, (∀ m, m ∈ l → m.1.length ≤ 4) → lenM l [] ≤ 4 * l.length := fun l => by
        induction l with
        | nil => intro _; exact Nat.zero_le _
        | cons a r ih =>
          intro hq
          have i1 := ih fun m hm => hq m (List.mem_cons_of_mem _ hm)
          have i2 := hq a List.mem_cons_self
          unfold lenM sumW at i1 ⊢
          simp only [sumBy, List.length_cons, List.length_nil, Nat.sub_zero] at i1 ⊢
          rw [if_pos (w a)]; omega
      exact this ms fun m hm => markOk_len ((trail_TrP h2).2.2 m hm)
    have q2 : numM ms [] ≤ ms.length := by
      have : ∀ l : List Mk, numM l [] ≤ l.length := fun l => by
        induction l with
        | nil => exact Nat.zero_le _
        | cons a r ih =>
          unfold numM sumW at ih ⊢
          simp only [sumBy, List.length_cons] at ih ⊢
          rw [if_pos (w a)]; omega
      exact this ms
    have q3 : subM ms (fun q => unT 5 (atT x q) (atT y q)) [] = belowM x y ms := by
      unfold subM sumW belowM
      refine sumBy_congr fun m _ => ?_
      rw [if_pos (w m)]
    show lookN 5 ms [] (some x) (some y) ≤ _
    omega
  · rw [diffM_no fun h => hl h.2]
    exact Nat.zero_le _
end Go.Proofs.YtkbhjejalkbogaaGreat

/- The law TrailCost. -/
set_option linter.unusedVariables false
set_option linter.unusedSimpArgs false
set_option maxRecDepth 20000
namespace Go.Proofs.YtkbhjejalkbogaaGreat
open Go Go.Av Go.RowKit

section
variable {w0 : World} {σ : Vw}

set_option maxHeartbeats 4000000 in
theorem law_TrailCost {u : Value} {bs : List Nat} (h : Bytes w0 u bs) {R : Value → Vw → Prop} (hR : ∀ s, R (.bool true) s) : AC Tryz.prog w0 n_laws_FnTrailCost [u] σ R := by
  refine ac_laws_FnTrailCost ?_
  unfold vc_laws_FnTrailCost
  rw [h.len, pBin_gt, pIf_d]
  refine ⟨fun _ => hR _, fun _ => ?_⟩
  refine spec_DrawTrailDiff h fun es x es' y v ms s1 k1 hx hxs hy hys hv hvs => ?_
  have hx0 := hx
  have hy0 := hy
  obtain ⟨f0, f1, f2, f3, f4, rfl, hp5⟩ := hx.shape
  obtain ⟨g0, g1, g2, g3, g4, rfl, hp6⟩ := hy.shape
  rw [pExtract_s rfl, pExtract_s rfl, pExtract_s rfl, hp5, hp6]
  simp only [cellOf_agg, List.getD_cons_zero, List.getD_cons_succ]
  have hcx : cntT 16 x ≤ 1000000000000 := Nat.le_trans (cnt_le 16 x) (by omega)
  have hcy : cntT 16 y ≤ 1000000000000 := Nat.le_trans (cnt_le 16 y) (by omega)
  have tx : ∀ {s : Vw}, Keeps s1 s → RT 16 (Av.get w0 s) _ x := fun k => mono_rt _ _ _ _ _ k.le hx0
  have ty : ∀ {s : Vw}, Keeps s1 s → RT 16 (Av.get w0 s) _ y := fun k => mono_rt _ _ _ _ _ k.le hy0
  have tv : ∀ {s : Vw}, Keeps s1 s → RSl 2 RMk (Av.get w0 s) v ms := fun k => hv.mono k.le fun _ _ => mono_mk k.le
  refine impl_TrailDiff (tx (Keeps.refl _)) (ty (Keeps.refl _)) (tv (Keeps.refl _)) hcx hcy fun v3 F3 s3 k3 o3 _ => ?_
  rw [pExtract_s rfl, pExtract_s rfl]
  refine spec_TrailDiff (tx k3) (ty k3) (tv k3) hcx hcy fun v4 F4 s4 k4 o4 _ => ?_
  have K4 := k3.trans k4
  rw [pExtract_s rfl, pExtract_s rfl]
  refine impl_TrailBelow (tx K4) (ty K4) (tv K4) hcx hcy fun s5 k5 => ?_
  have K5 := K4.trans k5
  refine impl_TrailCovers (tx K5) (ty K5) (tv K5) hcx hcy fun s6 k6 => ?_
  have K6 := K5.trans k6
  rw [pBin_ne, pIf_d]
  refine ⟨fun h => absurd rfl h, fun _ => ?_⟩
  have r3 := o3.rel (ok_en w0)
  have k36 := (k4.trans k5).trans k6
  have k46 := k5.trans k6
  refine wtEntries (r3.mono k36.le fun _ _ => mono_en k36.le) ((o4.rel (ok_en w0)).mono k46.le fun _ _ => mono_en k46.le) ?_
  rw [decide_eq_true rfl, pUn_not, pIf_b]
  refine ⟨fun h => by simp at h, fun _ => ?_⟩
  refine spec_TrailBelow (tx K6) (ty K6) (tv K6) hcx hcy fun s7 k7 => ?_
  have K7 := K6.trans k7
  rw [pBin_ne, pIf_d]
  refine ⟨fun h => absurd rfl h, fun _ => ?_⟩
  refine spec_TrailCovers (tx K7) (ty K7) (tv K7) hcx hcy fun s8 k8 => ?_
  have K8 := K7.trans k8
  have eb : ∀ (p q : Bool) (K : Value → Prop), pBin Tryz.prog 4 .neq (.bool p) (.bool q) K ↔ K (.bool !(p == q)) := fun p q K => pBin_b (by kernel_rfl) rfl
  rw [eb, pIf_b]
  refine ⟨fun h => by simp at h, fun _ => ?_⟩
  rw [pUn_not, pIf_b]
  refine ⟨fun _ => hR _, fun hc => ?_⟩
  have hc : coversX 16 16 x y ms = true := by simpa using hc
  refine impl_DiffWalk (tx K8) (ty K8) hcx hcy fun v9 F9 s9 k9 o9 _ => ?_
  have k39 := ((k36.trans k7).trans k8).trans k9
  refine wtEntries (r3.mono k39.le fun _ _ => mono_en k39.le) (o9.rel (ok_en w0)) ?_
  rw [diffM_walk hc, decide_eq_true rfl, pIf_b]
  refine ⟨fun _ => ?_, fun h => by cases h⟩
  have hl := hvs.1
  have hcost := cost_ok hc
  have hbel : belowX 16 16 x y ms ≤ 1000000 := by
    obtain ⟨h1, h2, h3⟩ := covers_facts hc
    obtain ⟨_, fx, c1⟩ := ok_fineT h1.1
    obtain ⟨_, fy, c2⟩ := ok_fineT h1.2
    rw [belowX, if_pos ⟨h1, h2⟩]
    unfold belowM
    have : sumBy (fun m : Mk => if m.2 = true then unT 5 (atT x m.1) (atT y m.1) else 0) ms ≤ 100 * ms.length := sumBy_bound fun m _ => by
      split
      · have q1 := unT_le 5 (atT x m.1) (atT y m.1)
        have q2 := at_cntO fx m.1
        have q3 := at_cntO fy m.1
        omega
      · omega
    omega
  rw [(tv (K8.trans k9)).len, pBin_mul (by omega), pBin_mul (by omega), pBin_add (by omega), pBin_le]
  rw [decide_eq_true (by omega)]
  exact hR _
end
end Go.Proofs.YtkbhjejalkbogaaGreat

/- The law FnTrailCost holds: it returns true, and the input reads as it did. No condition. -/
namespace Go.Proofs.YtkbhjejalkbogaaGreat.fnTrailCost
open Go.ChangeShapes Go.WideShapes Go.ChangeAt Go.RowKit Go.Av
set_option linter.unusedVariables false
set_option linter.unusedSimpArgs false
theorem own : ownKnob Tryz.prog.godebug = none := by kernel_rfl
theorem laidOut : laidOutB Tryz.prog = true := by kernel_rfl
set_option maxRecDepth 100000 in
theorem lifted (os : Os) (started : os.Started) (H : Type) (enc : TypeId × Value → H) :
    ReturnsInHanded {} Tryz.checked os 6 .any (Rows.fnTrailCostSpec.pre6 enc Tryz.prog Tryz.f6 Rows.fnTrailCostRow.domain false) (Rows.fnTrailCostSpec.post enc Tryz.prog Tryz.f6 false true false false) := by
  refine returnsInHanded_of_change_sized (C := Tryz.checked) own started (by kernel_rfl) Tryz.func6
    (ChangeSpec.witness6 (enc := enc) (C := Tryz.checked) false ⟨#[], #[.slice none 0 0], []⟩ 8 (by kernel_rfl) (by kernel_rfl) (by kernel_rfl) (by kernel_rfl)) ?_
  intro W base args ds gs before hval0 hW hcnd hsz0 _
  have hval : ∀ (j : Nat) t v, Tryz.f6.params[j]? = some t → args[j]? = some v → Value.okWide Tryz.prog W .any base t v := hval0
  have hW' := hW
  obtain ⟨p, q, hA0, hV, rfl, hfz, hnd⟩ := hW
  have hA : DataW.TrodAll enc Tryz.prog W 0 (fun _ => true) true Tryz.f6.params.toList args.toList ds p := hA0
  rw [Tryz.params6] at hA hval
  obtain ⟨v0, d0, rfl, rfl, h0⟩ := trodAll_one hA
  obtain ⟨rfl, rfl⟩ := trodVars_none hV
  obtain ⟨A0, len0, cap0, rfl⟩ := okWide_slice (t := 22) (e := 5) (by kernel_rfl) (hval 0 22 v0 rfl rfl)
  have h0k := h0
  obtain ⟨fuel0, hf0⟩ := h0
  clear hA0 hval0 hsz0
  simp only [List.append_nil] at hW'
  have hlt : ∀ x ∈ p, x.block < W.heap.size := fun x hx => by simpa using hW'.lt x hx
  have hargs0 : ∀ (W' : World), Below W.heap.size W W' → DataW.Trod enc Tryz.prog W' 0 (fun b => decide (b < W.heap.size)) true 22 (.slice A0 len0 cap0) d0 p :=
    fun W' hn => Below.trod laidOut (by kernel_rfl) (of_decide_eq_true (by kernel_rfl)) h0k hn hlt
  obtain ⟨u0, x0, hu0, r0⟩ := open_rsl (t := t_s_uint8) (e := t_uint8) (by kernel_rfl) (by kernel_rfl) open_byte hf0
  have hu0' : u0 = .slice A0 len0 cap0 := by
    have : [Value.slice A0 len0 cap0] = [u0] := hu0
    cases this; rfl
  subst hu0'
  refine ((law_TrailCost (R := fun v _ => v = .bool true) r0 (by intros; rfl)).calls).mono fun e W' ⟨v, σ', he, hv, bel⟩ => ?_
  subst he hv
  exact ⟨_, rfl, _, _, _, [], _, [], hW', trodAll_mk1 (shut_bool Tryz.underlying4 _), trodAll_mk1 (hargs0 W' bel), rfl, bel.frame _, fun h => by cases h⟩
theorem over : Rows.fnTrailCostRow.holds Tryz.pinned (OpenSpec.ofChange Rows.fnTrailCostSpec) :=
  OpenClaim.holds_of_wide 6 Tryz.f6 rfl rfl rfl rfl rfl rfl rfl ⟨rfl, rfl, rfl, rfl, rfl⟩ rfl rfl rfl rfl rfl (by kernel_rfl) Tryz.func6 (by kernel_rfl)
    (of_decide_eq_true (by kernel_rfl)) (by unfold Func.isWrapper; first | (rw [if_pos (by decide +kernel)]; kernel_rfl) | (rw [if_neg (by decide +kernel)]; exact ⟨rfl, rfl⟩))
    (fun os started H enc _ => lifted os started H enc)
theorem proved : Rows.FnTrailCostSaid := over
end Go.Proofs.YtkbhjejalkbogaaGreat.fnTrailCost
namespace Go.Proofs.YtkbhjejalkbogaaGreat
/-- The row, under a short name, for the claim. -/
theorem fnTrailCost_holds : Rows.FnTrailCostSaid := fnTrailCost.proved
end Go.Proofs.YtkbhjejalkbogaaGreat
