/- The law FnTreeSee holds: it returns true, and the input reads as it did. No condition. This is part 5 of 5 of its proof. -/
import Derived.Test.YtkbhjejalkbogaaXFnTreeSee4
import Derived.Test.YtkbhjejalkbogaaRows
import Derived.WalkKit
import Derived.ProofKit
import Derived.OpenShut
import Derived.ShutString
import Derived.ChangeOld
import Derived.Below
import Derived.Carry
import Derived.SizedLaws

/- Marks put in and made coarser by the reference's hand. -/
set_option linter.unusedVariables false
set_option linter.unusedSimpArgs false
namespace Go.Proofs.Ytkbhjejalkbogaa
open Go Go.Av

section
variable {w0 : World} {σ : Vw}

theorem rebase {v : Value} {ms : List Mk} (h : RSl 2 RMk (Av.get w0 σ) v ms) : RSl 2 (RB RMk (Av.get w0 σ)) (Av.get w0 σ) v ms := h.imp fun es x hx => hx

end
end Go.Proofs.Ytkbhjejalkbogaa

/- The trail to which a mark is added, by the reference's hand. -/
set_option linter.unusedVariables false
set_option linter.unusedSimpArgs false
namespace Go.Proofs.Ytkbhjejalkbogaa
open Go Go.Av

section
variable {w0 : World} {σ : Vw}

end
end Go.Proofs.Ytkbhjejalkbogaa

/- The trail to which a mark is added, by the program's hand. -/
set_option linter.unusedVariables false
set_option linter.unusedSimpArgs false
namespace Go.Proofs.Ytkbhjejalkbogaa
open Go Go.Av

section
variable {w0 : World} {σ : Vw}

end
end Go.Proofs.Ytkbhjejalkbogaa

/- The law 'TrailAdd', of the functions alone. -/
set_option linter.unusedVariables false
set_option linter.unusedSimpArgs false
namespace Go.Proofs.Ytkbhjejalkbogaa
open Go Go.Av

section
variable {w0 : World} {σ : Vw}

end
end Go.Proofs.Ytkbhjejalkbogaa

/- How many paths there are in either of two parts, by the program's hand; 'TrailBelow' and its law. -/
set_option linter.unusedVariables false
set_option linter.unusedSimpArgs false
set_option maxRecDepth 20000
namespace Go.Proofs.Ytkbhjejalkbogaa
open Go Go.Av

theorem short_up : ∀ {n : Nat} {x : Tr}, shortT n x → shortT (n + 1) x
  | 0, _, h => h.elim
  | n + 1, .mk d m t ns ks, h => ⟨h.1, h.2.1, h.2.2.1, h.2.2.2.1, fun k hk => short_up (h.2.2.2.2 k hk)⟩
theorem cnt_up : ∀ {n : Nat} {x : Tr}, shortT n x → cntT (n + 1) x = cntT n x
  | 0, _, h => h.elim
  | n + 1, .mk d m t ns ks, h => by
    show ks.length + sumBy (cntT (n + 1)) ks = ks.length + sumBy (cntT n) ks
    rw [sumBy_congr fun k hk => cnt_up (h.2.2.2.2 k hk)]
theorem asc_up : ∀ {n : Nat} {x : Tr}, shortT n x → ascT n x → ascT (n + 1) x
  | 0, _, h, _ => h.elim
  | n + 1, .mk d m t ns ks, h, ha => ⟨ha.1, fun k hk => asc_up (h.2.2.2.2 k hk) (ha.2 k hk)⟩
theorem fine_up {n : Nat} {x : Tr} (h : fineT n x) : fineT (n + 1) x := ⟨short_up h.1, by rw [cnt_up h.1]; exact h.2.1, asc_up h.1 h.2.2⟩
theorem fine_at : ∀ (ps : List ByteArray) {n : Nat} {x y : Tr}, fineT n x → atT x ps = some y → fineT n y
  | [], _, x, y, h, e => by
    have : some x = some y := by cases x; exact e
    cases this; exact h
  | p :: r, 0, x, y, h, e => h.1.elim
  | p :: r, n + 1, x, y, h, e => by
    obtain ⟨d, m, t, ns, ks⟩ := x
    unfold atT at e
    cases hk : kidT (.mk d m t ns ks) p with
    | none => rw [hk] at e; simp at e
    | some k =>
      rw [hk] at e
      simp only [Option.bind_some] at e
      exact fine_up (fine_at r (fine_kid h (kid_mem hk)) e)
section
variable {w0 : World} {σ : Vw}

theorem ok_fineT {n : Nat} {x : Tr} (h : treeOk n x = true) : (∀ rd es, RT n rd es x → RT 5 rd es x) ∧ fineT 5 x ∧ cntT 5 x ≤ 30 := by
  obtain ⟨d1, x1, c1, a1⟩ := ok_fine h
  exact ⟨d1, ⟨x1, by omega, a1⟩, c1⟩

end
end Go.Proofs.Ytkbhjejalkbogaa

/- The law 'TreeSee', of the functions alone. -/
set_option linter.unusedVariables false
set_option linter.unusedSimpArgs false
set_option maxRecDepth 20000
namespace Go.Proofs.Ytkbhjejalkbogaa
open Go Go.Av Go.RowKit

theorem isSome_ne {α : Type} {o : Option α} (h : o ≠ none) : o.isSome = true := by
  cases o with
  | none => exact absurd rfl h
  | some x => rfl
theorem atT_snoc : ∀ (ps : List ByteArray) (x : Tr) (nm : ByteArray), atT x (ps ++ [nm]) = (atT x ps).bind fun y => kidT y nm
  | [], x, nm => by
    have h1 : atT x ([] ++ [nm]) = (kidT x nm).bind fun k => atT k [] := by cases x; rfl
    have h2 : atT x [] = some x := by cases x; rfl
    rw [h1, h2]
    show _ = kidT x nm
    cases kidT x nm with
    | none => rfl
    | some k => cases k; rfl
  | p :: r, x, nm => by
    have h1 : atT x ((p :: r) ++ [nm]) = (kidT x p).bind fun k => atT k (r ++ [nm]) := by cases x; rfl
    have h2 : atT x (p :: r) = (kidT x p).bind fun k => atT k r := by cases x; rfl
    rw [h1, h2]
    cases kidT x p with
    | none => rfl
    | some k => exact atT_snoc r k nm
/-- What is listed is there. -/
theorem listed_there {n : Nat} {x : Tr} {ps : List ByteArray} {nm : ByteArray} (h : nm ∈ (listT n x ps).1) : (atX n x (ps ++ [nm])).2 = true := by
  unfold listT at h
  split at h
  · rename_i hok
    obtain ⟨_, hf, _⟩ := ok_fineT hok
    cases hat : atT x ps with
    | none => rw [hat] at h; cases h
    | some y =>
      rw [hat] at h
      simp only at h
      split at h
      · have hfy := fine_at ps hf hat
        unfold atX
        rw [if_pos hok, atT_snoc, hat]
        show ((some y).bind fun y => kidT y nm).isSome = true
        exact isSome_ne (kid_there hfy.1 h)
      · cases h
  · cases h

section
variable {w0 : World} {σ : Vw}

set_option maxHeartbeats 4000000 in
theorem law_TreeSee {u u' : Value} {bs bs' : List Nat} (h : Bytes w0 u bs) (h' : Bytes w0 u' bs') {R : Value → Vw → Prop} (hR : ∀ s, R (.bool true) s) : AC Try.prog w0 n_laws_FnTreeSee [u, u'] σ R := by
  refine ac_laws_FnTreeSee ?_
  unfold vc_laws_FnTreeSee
  rw [h.len, pBin_gt, pIf_d]
  refine ⟨fun _ => hR _, fun _ => ?_⟩
  rw [h'.len, pBin_gt, pIf_d]
  refine ⟨fun _ => hR _, fun _ => ?_⟩
  refine spec_DrawTreeRead h fun es x pv ps a c s1 k1 hx hxs hv hpl ha hc => ?_
  have hx0 := hx
  obtain ⟨f0, f1, f2, f3, f4, rfl, hp7⟩ := hx.shape
  rw [pExtract_s rfl, pExtract_s rfl, pExtract_s rfl, pExtract_s rfl, hp7]
  simp only [cellOf_agg, List.getD_cons_zero, List.getD_cons_succ]
  have hcnt : cntT 16 x ≤ 1000000000000 := Nat.le_trans (cnt_le 16 x) (by omega)
  refine impl_TreeRead hx0 hv hcnt ha hc fun s2 k2 => ?_
  rw [pExtract_s rfl, pExtract_s rfl]
  refine spec_TreeRead (mono_rt _ _ _ _ _ k2.le hx0) (hv.mono k2.le fun _ _ h => h) hcnt ha hc ?_
  rw [pExtract_s rfl, pExtract_s rfl, pBin_sne, pIf_d]
  refine ⟨fun h => absurd rfl h, fun _ => ?_⟩
  rw [pBin_ne, pIf_d]
  refine ⟨fun h => absurd rfl h, fun _ => ?_⟩
  clear hx0 hv hxs hp7 hcnt
  refine spec_DrawTreeList h' fun es x pv ps s3 k3 hx hxs hv hpl => ?_
  have hx0 := hx
  obtain ⟨g0, g1, g2, g3, g4, rfl, hp8⟩ := hx.shape
  rw [pExtract_s rfl, pExtract_s rfl, hp8]
  simp only [cellOf_agg, List.getD_cons_zero, List.getD_cons_succ]
  have hcnt : cntT 16 x ≤ 1000000000000 := Nat.le_trans (cnt_le 16 x) (by omega)
  have hfit := fit_of 16 x (by omega)
  refine impl_TreeList hx0 hv hcnt hfit fun lv F s4 k4 o4 f4 => ?_
  rw [pExtract_s rfl, pExtract_s rfl]
  refine spec_TreeList (mono_rt _ _ _ _ _ k4.le hx0) (hv.mono k4.le fun _ _ h => h) hcnt hfit fun lv2 F2 s5 k5 o5 f5 => ?_
  rw [pExtract_s rfl, pExtract_s rfl]
  have K5 := k4.trans k5
  refine impl_TreeAt (mono_rt _ _ _ _ _ K5.le hx0) (hv.mono K5.le fun _ _ h => h) (by omega) fun e1 G1 s6 k6 o6 f6 => ?_
  rw [pExtract_s rfl, pExtract_s rfl]
  have r6 := (ok_rt w0 16).rel _ _ _ _ o6
  have r60 := r6
  obtain ⟨q0, q1, q2, q3, q4, rfl, hp9⟩ := r6.shape
  rw [hp9]
  have K6 := K5.trans k6
  refine spec_TreeAt (mono_rt _ _ _ _ _ K6.le hx0) (hv.mono K6.le fun _ _ h => h) (by omega) fun e2 G2 s7 k7 o7 f7 => ?_
  rw [pExtract_s rfl, pExtract_s rfl]
  have r7 := (ok_rt w0 16).rel _ _ _ _ o7
  have r70 := r7
  obtain ⟨t0, t1, t2, t3, t4, rfl, hp10⟩ := r7.shape
  rw [hp10, pBin_ne, pIf_d]
  simp only [cellOf_agg, List.getD_cons_zero, List.getD_cons_succ]
  refine ⟨fun h => absurd rfl h, fun _ => ?_⟩
  have K7 := K6.trans k7
  have k57 := (k5.trans k6).trans k7
  have k67 := k6.trans k7
  have rl := (o4.rel (ok_str w0)).mono k57.le fun _ _ h => h
  refine wtTexts rl ((o5.rel (ok_str w0)).mono k67.le fun _ _ h => h) ?_
  rw [pUn_not, pIf_b]
  refine ⟨fun h => by simp at h, fun _ => ?_⟩
  have eb : ∀ (p q : Bool) (K : Value → Prop), pBin Try.prog 4 .neq (.bool p) (.bool q) K ↔ K (.bool !(p == q)) := fun p q K => pBin_b (by kernel_rfl) rfl
  rw [eb, pIf_b]
  refine ⟨fun h => by simp at h, fun _ => ?_⟩
  refine wtTree 16 16 (mono_rt _ _ _ _ _ k7.le r60) r70 ?_
  rw [pUn_not, pIf_b]
  refine ⟨fun h => by simp at h, fun _ => ?_⟩
  have hx7 := mono_rt _ _ _ _ _ K7.le hx0
  refine impl_TreeCount hx7 hcnt ?_
  refine spec_TreeCount hx7 hcnt ?_
  rw [pBin_ne, pIf_d]
  refine ⟨fun h => absurd rfl h, fun _ => ?_⟩
  have hv7 := hv.mono K7.le fun _ _ h => h
  clear r60 r70 hp9 hp10 o6 o7 o5
  have hlen := rl.le
  refine loop_rule (m := (listT 16 x ps).1.length) (fun m l st => ∃ j : Nat, m + j = (listT 16 x ps).1.length ∧ Keeps s7 st ∧ l = [.bool false, pv, lv, .int .i64 (j : Nat), g0, g1, g2, g3, g4]) ?_ ⟨0, by omega, Keeps.refl _, rfl⟩
  rintro m l st L ⟨j, hm, ks, rfl⟩ hL
  simp only [vget, List.getD_cons_zero, List.getD_cons_succ]
  have rls := rl.mono ks.le fun _ _ h => h
  rw [rls.len, pBin_lt, pIf_d]
  refine ⟨fun hj => ?_, fun hj => ?_⟩
  · have hnm := List.getElem?_eq_getElem (show j < (listT 16 x ps).1.length by omega)
    generalize (listT 16 x ps).1[j]'(by omega) = nm at hnm
    have hth := listed_there (List.mem_of_getElem? hnm)
    refine RSl.atp rls hnm fun p g hg => ?_
    obtain ⟨hg, hgs⟩ := hg
    simp only [expl, List.cons.injEq, and_true] at hg
    rw [hg, pVal1 rfl]
    intro b2 g3' g4'
    have k2' : Keeps st (st.put b2 ⟨t_string, [], 0, (0, 0)⟩) := Keeps.put g4'
    have hb0 : ∀ i, i ∈ [b2] → st i = none := fun i hi => by rw [List.mem_singleton.1 hi]; exact g4'
    refine ⟨k2'.stay, ?_⟩
    refine (OAcc.new (w0 := w0) (σ := st) (ety := t_string) (n := 1) (O := OStr) g3').allX (ok_str w0) (hv7.mono ks.le fun _ _ h => h) k2'.le (fun es y hy => ⟨rfl, hy⟩) (by simp; omega) (by omega) fun v3 F3 s8 x3 k8 o8 f8 => ?_
    rw [List.nil_append] at o8
    refine ⟨fun a g _ hc j hj => Ext.le x3 _ _ (hc j hj), ?_⟩
    have K8 := k8.old k2' hb0
    have hF3 := fresh_in k2' hb0 f8
    refine o8.one (ok_str w0) (f := []) (y := nm) ⟨rfl, rfl, hgs⟩ (fun i hi => by cases hi) (by omega) (by omega) fun v4 F4 s9 k9 o9 f9 => ?_
    have K9 := k9.old K8 hF3
    refine impl_TreeAt (mono_rt _ _ _ _ _ ((K7.trans ks).trans K9).le hx0) (o9.osl.rel (ok_str w0)) (by omega) fun e3 G3 s10 k10 o10 f10 => ?_
    rw [pExtract_s rfl, pExtract_s rfl]
    have r10 := (ok_rt w0 16).rel _ _ _ _ o10
    obtain ⟨w0', w1, w2, w3, w4, rfl, hp11⟩ := r10.shape
    rw [hp11, hth, pUn_not, pIf_b]
    refine ⟨fun h => (by cases h), fun _ => ?_⟩
    rw [pBin_add (by omega)]
    exact hL _ _ (m - 1) (by omega) ⟨j + 1, by omega, (ks.trans K9).trans k10, by simp⟩
  · show AC Try.prog w0 n_spec_TreeOk _ st _
    have hxs' := mono_rt _ _ _ _ _ (K7.trans ks).le hx0
    refine spec_TreeOk hxs' hcnt (pNotIf.2 ⟨fun _ => hR _, fun hok => ?_⟩)
    refine impl_TreeCount hxs' hcnt ?_
    have hct : cntT 16 x ≤ 30 := by
      have := hok
      simp only [treeOk, Bool.and_eq_true, decide_eq_true_eq] at this
      exact this.2.2
    have hwf : wfT 16 x := by
      have := hok
      simp only [treeOk, Bool.and_eq_true] at this
      exact sound_wf 16 x 0 this.2.1
    refine wtPaths 16 (ps := []) hxs' hwf (by omega) nil_strs (by simp) fun pv2 F5 s11 k11 o11 f11 => ?_
    rw [(o11.osl.rel (ok_any w0)).len, units_len, treeCount, if_pos hok, pBin_eq, decide_eq_true rfl]
    exact hR _
end
end Go.Proofs.Ytkbhjejalkbogaa

/- The law FnTreeSee holds: it returns true, and the input reads as it did. No condition. -/
namespace Go.Proofs.Ytkbhjejalkbogaa.fnTreeSee
open Go.ChangeShapes Go.WideShapes Go.ChangeAt Go.RowKit Go.Av
set_option linter.unusedVariables false
set_option linter.unusedSimpArgs false
theorem own : ownKnob Try.prog.godebug = none := by kernel_rfl
theorem laidOut : laidOutB Try.prog = true := by kernel_rfl
set_option maxRecDepth 100000 in
theorem lifted (os : Os) (started : os.Started) (H : Type) (enc : TypeId × Value → H) :
    ReturnsInHanded {} Try.checked os 3 .any (Rows.fnTreeSeeSpec.pre6 enc Try.prog Try.f3 Rows.fnTreeSeeRow.domain false) (Rows.fnTreeSeeSpec.post enc Try.prog Try.f3 false true false false) := by
  refine returnsInHanded_of_change_sized (C := Try.checked) own started (by kernel_rfl) Try.func3
    (ChangeSpec.witness6 (enc := enc) (C := Try.checked) false ⟨#[], #[.slice none 0 0, .slice none 0 0], []⟩ 8 (by kernel_rfl) (by kernel_rfl) (by kernel_rfl) (by kernel_rfl)) ?_
  intro W base args ds gs before hval0 hW hcnd hsz0 _
  have hval : ∀ (j : Nat) t v, Try.f3.params[j]? = some t → args[j]? = some v → Value.okWide Try.prog W .any base t v := hval0
  have hW' := hW
  obtain ⟨p, q, hA0, hV, rfl, hfz, hnd⟩ := hW
  have hA : DataW.TrodAll enc Try.prog W 0 (fun _ => true) true Try.f3.params.toList args.toList ds p := hA0
  rw [Try.params3] at hA hval
  obtain ⟨v0, v1, d0, d1, p0, p1, rfl, rfl, hpp, h0, h1⟩ := trodAll_two hA
  obtain ⟨rfl, rfl⟩ := trodVars_none hV
  obtain ⟨A0, len0, cap0, rfl⟩ := okWide_slice (t := 22) (e := 5) (by kernel_rfl) (hval 0 22 v0 rfl rfl)
  obtain ⟨A1, len1, cap1, rfl⟩ := okWide_slice (t := 22) (e := 5) (by kernel_rfl) (hval 1 22 v1 rfl rfl)
  have h0k := h0
  obtain ⟨fuel0, hf0⟩ := h0
  have h1k := h1
  obtain ⟨fuel1, hf1⟩ := h1
  clear hA0 hval0 hsz0
  simp only [List.append_nil] at hW'
  have hlt : ∀ x ∈ p, x.block < W.heap.size := fun x hx => by simpa using hW'.lt x hx
  have hargs0 : ∀ (W' : World), Below W.heap.size W W' → DataW.Trod enc Try.prog W' 0 (fun b => decide (b < W.heap.size)) true 22 (.slice A0 len0 cap0) d0 p0 :=
    fun W' hn => Below.trod laidOut (by kernel_rfl) (of_decide_eq_true (by kernel_rfl)) h0k hn (fun x hx => hlt x (by rw [hpp]; simp [hx]))
  have hargs1 : ∀ (W' : World), Below W.heap.size W W' → DataW.Trod enc Try.prog W' 0 (fun b => decide (b < W.heap.size)) true 22 (.slice A1 len1 cap1) d1 p1 :=
    fun W' hn => Below.trod laidOut (by kernel_rfl) (of_decide_eq_true (by kernel_rfl)) h1k hn (fun x hx => hlt x (by rw [hpp]; simp [hx]))
  obtain ⟨u0, x0, hu0, r0⟩ := open_rsl (t := t_s_uint8) (e := t_uint8) (by kernel_rfl) (by kernel_rfl) open_byte hf0
  have hu0' : u0 = .slice A0 len0 cap0 := by
    have : [Value.slice A0 len0 cap0] = [u0] := hu0
    cases this; rfl
  subst hu0'
  obtain ⟨u1, x1, hu1, r1⟩ := open_rsl (t := t_s_uint8) (e := t_uint8) (by kernel_rfl) (by kernel_rfl) open_byte hf1
  have hu1' : u1 = .slice A1 len1 cap1 := by
    have : [Value.slice A1 len1 cap1] = [u1] := hu1
    cases this; rfl
  subst hu1'
  refine ((law_TreeSee (R := fun v _ => v = .bool true) r0 r1 (by intros; rfl)).calls).mono fun e W' ⟨v, σ', he, hv, bel⟩ => ?_
  subst he hv
  have hW'' := hW'
  rw [hpp] at hW''
  exact ⟨_, rfl, _, _, _, [], _, [], hW'', trodAll_mk1 (shut_bool Try.underlying4 _), trodAll_mk2 (hargs0 W' bel) (hargs1 W' bel), rfl, bel.frame _, fun h => by cases h⟩
theorem over : Rows.fnTreeSeeRow.holds Try.pinned (OpenSpec.ofChange Rows.fnTreeSeeSpec) :=
  OpenClaim.holds_of_wide 3 Try.f3 rfl rfl rfl rfl rfl rfl rfl ⟨rfl, rfl, rfl, rfl, rfl⟩ rfl rfl rfl rfl rfl (by kernel_rfl) Try.func3 (by kernel_rfl)
    (of_decide_eq_true (by kernel_rfl)) (by unfold Func.isWrapper; first | (rw [if_pos (by decide +kernel)]; kernel_rfl) | (rw [if_neg (by decide +kernel)]; exact ⟨rfl, rfl⟩))
    (fun os started H enc _ => lifted os started H enc)
theorem proved : Rows.FnTreeSeeSaid := over
end Go.Proofs.Ytkbhjejalkbogaa.fnTreeSee
namespace Go.Proofs.Ytkbhjejalkbogaa
/-- The row, under a short name, for the claim. -/
theorem fnTreeSee_holds : Rows.FnTreeSeeSaid := fnTreeSee.proved
end Go.Proofs.Ytkbhjejalkbogaa
