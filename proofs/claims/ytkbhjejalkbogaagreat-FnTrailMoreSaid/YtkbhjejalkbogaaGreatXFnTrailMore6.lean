/- The law FnTrailMore holds: it returns true, and the input reads as it did. No condition. This is part 6 of 6 of its proof. -/
import Derived.Test.YtkbhjejalkbogaaGreatXFnTrailMore5
import Derived.Test.YtkbhjejalkbogaaGreatRows
import Derived.WalkKit
import Derived.ProofKit
import Derived.OpenShut
import Derived.ShutString
import Derived.ChangeOld
import Derived.Below
import Derived.Carry
import Derived.SizedLaws

/- Whether all that differs is marked, by either hand; 'TrailCovers' and its law. -/
set_option linter.unusedVariables false
set_option linter.unusedSimpArgs false
set_option maxRecDepth 20000
namespace Go.Proofs.YtkbhjejalkbogaaGreat
open Go Go.Av

noncomputable def coversX (n m : Nat) (x y : Tr) (ms : List Mk) : Bool := (treeOk n x && treeOk m y) && (trailOk ms && covP 5 ms [] (some x) (some y))
section
variable {w0 : World} {σ : Vw}

/-- The names one by one, by the reference's hand. -/
def VSC (w0 : World) (v mv x0 x1 x2 x3 x4 y0 y1 y2 y3 y4 : Value) (s : Vw) (R : Value → Vw → Prop) : Prop :=
  AC Tryz.prog w0 n_spec_l12Names ([.agg (⟨[x0, x1, x2, x3, x4]⟩), .agg (⟨[y0, y1, y2, y3, y4]⟩)]) s (fun v4 s5 => pLoop (fun l6 K7 s8 => pLen (vget l6 3) (fun v9 => pBin Tryz.prog 3 .lss (vget l6 4) v9 (fun v10 => pIf v10 (pIndexAddr 1 (vget l6 3) (vget l6 4) (fun v11 => pLoad w0 1 v11 s8 (fun g12 => AC Tryz.prog w0 n_spec_l12Kid ([.agg (⟨[vget l6 5, vget l6 6, vget l6 7, vget l6 8, vget l6 9]⟩), g12 0]) s8 (fun v13 s14 => pExtract v13 0 (fun v15 => pExtract v13 1 (fun v16 => pVal true 5 v15 (pIndexAddr 1 (vget l6 3) (vget l6 4) (fun v17 => pLoad w0 1 v17 s14 (fun g18 => AC Tryz.prog w0 n_spec_l12Kid ([.agg (⟨[vget l6 10, vget l6 11, vget l6 12, vget l6 13, vget l6 14]⟩), g18 0]) s14 (fun v19 s20 => pExtract v19 0 (fun v21 => pExtract v19 1 (fun v22 => pVal true 5 v21 (pIndexAddr 1 (vget l6 3) (vget l6 4) (fun v23 => pLoad w0 1 v23 s20 (fun g24 => AC Tryz.prog w0 n_spec_l3Path [vget l6 0, g24 0] s20 (fun v25 s26 => AC Tryz.prog w0 n_spec_l12Covers ([v25, .agg (⟨[cellOf v15 0, cellOf v15 1, cellOf v15 2, cellOf v15 3, cellOf v15 4]⟩), v16, .agg (⟨[cellOf v21 0, cellOf v21 1, cellOf v21 2, cellOf v21 3, cellOf v21 4]⟩), v22, vget l6 1]) s26 (fun v27 s28 => pUn UnOp.not v27 (fun v29 => pIf v29 (K7 AX.ret [vget l6 0, vget l6 1, .bool false, vget l6 3, vget l6 4, vget l6 5, vget l6 6, vget l6 7, vget l6 8, vget l6 9, vget l6 10, vget l6 11, vget l6 12, vget l6 13, vget l6 14] s28) (pBin Tryz.prog 3 .add (vget l6 4) (.int .i64 1) (fun v30 => K7 AX.normal [vget l6 0, vget l6 1, vget l6 2, vget l6 3, v30, vget l6 5, vget l6 6, vget l6 7, vget l6 8, vget l6 9, vget l6 10, vget l6 11, vget l6 12, vget l6 13, vget l6 14] s28)))))))))))))))))))) (K7 (AX.exit 0) [vget l6 0, vget l6 1, vget l6 2, vget l6 3, vget l6 4, vget l6 5, vget l6 6, vget l6 7, vget l6 8, vget l6 9, vget l6 10, vget l6 11, vget l6 12, vget l6 13, vget l6 14] s8)))) [v, mv, .bool false, v4, .int .i64 0, x0, x1, x2, x3, x4, y0, y1, y2, y3, y4] s5 (fun x31 l32 s33 => match x31 with | .normal => R (.bool true) s33 | .ret => R (vget l32 2) s33 | .exit i34 => (match Nat.beq i34 0 with | true => R (.bool true) s33 | false => False)))

theorem all_take {α : Type} {W : α → Bool} {L : List α} {j : Nat} {x : α} (hj : L[j]? = some x) : (L.take (j + 1)).all W = ((L.take j).all W && W x) := by
  rw [List.take_add_one, hj, List.all_append]; simp
theorem all_bad {α : Type} {W : α → Bool} {L : List α} {j : Nat} {x : α} (hj : L[j]? = some x) (h : W x = false) : L.all W = false := by
  cases hc : L.all W with
  | false => rfl
  | true => rw [List.all_eq_true] at hc; rw [hc x (List.mem_of_getElem? hj)] at h; cases h
theorem covP_names {n : Nat} {ms : List Mk} {ps : List ByteArray} {a b : Option Tr} (hx : fineT (n + 1) (a.getD zeroT)) (hy : fineT (n + 1) (b.getD zeroT)) :
    covP (n + 1) ms ps a b = ((!diffB a b || markedB ms ps) && (namesU (namesOf (a.getD zeroT) ++ namesOf (b.getD zeroT))).all fun nm => covP n ms (ps ++ [nm]) (kidT (a.getD zeroT) nm) (kidT (b.getD zeroT) nm)) := by
  show (_ && (mrgK (partsOf (a.getD zeroT)) (partsOf (b.getD zeroT))).all _) = _
  rw [mrg_kids hx hy, List.all_map]
  rfl

theorem spec_Covers : ∀ (n : Nat) {σ : Vw} {v mv : Value} {es es' : List Value} {ps : List ByteArray} {ms : List Mk} {a b : Option Tr} {R : Value → Vw → Prop}, RSl 1 RS (Av.get w0 σ) v ps → RSl 2 RMk (Av.get w0 σ) mv ms → RT n (Av.get w0 σ) es (a.getD zeroT) → RT n (Av.get w0 σ) es' (b.getD zeroT) → fineO n a → fineO n b →
    ¬ (a = none ∧ b = none) → ps.length + sumS ps + 6 * n ≤ 1000000 → (∀ s, Keeps σ s → R (.bool (covP n ms ps a b)) s) → AC Tryz.prog w0 n_spec_l12Covers [v, .agg ⟨es⟩, .bool a.isSome, .agg ⟨es'⟩, .bool b.isSome, mv] σ R := by
  intro n
  induction n with
  | zero => intro σ v mv es es' ps ms a b R _ _ h; exact h.elim
  | succ n ih =>
    intro σ v mv es es' ps ms a b R hv hm h h' hfa hfb hne hps hR
    have h0 := h
    have h0' := h'
    have hx := fine_getD hfa
    have hy := fine_getD hfb
    obtain ⟨u, w, rfl, _, _, _, _, hp⟩ := h.cells
    obtain ⟨u', w', rfl, _, _, _, _, hp'⟩ := h'.cells
    refine ac_spec_l12Covers ?_
    unfold vc_spec_l12Covers cs_spec_l12Covers_1
    rw [hp, hp']
    simp only [cellOf_agg, List.getD_cons_zero, List.getD_cons_succ]
    have hcov := covP_names (ms := ms) (ps := ps) hx hy
    have hl1 := fine_len hx
    have hl2 := fine_len hy
    have hLl := names_both hx hy
    have hLm : ∀ z, z ∈ namesU (namesOf (a.getD zeroT) ++ namesOf (b.getD zeroT)) → z ∈ namesOf (a.getD zeroT) ∨ z ∈ namesOf (b.getD zeroT) := fun z hz => by rw [namesU_mem, List.mem_append] at hz; exact hz
    -- the names one by one
    have TAIL : (!diffB a b || markedB ms ps) = true → VSC w0 v mv (.bool (isDir (a.getD zeroT))) (.int .i64 (modeOf (a.getD zeroT))) (.string (dataOf (a.getD zeroT))) u w (.bool (isDir (b.getD zeroT))) (.int .i64 (modeOf (b.getD zeroT))) (.string (dataOf (b.getD zeroT))) u' w' σ R := by
      intro hd
      rw [hd, Bool.true_and] at hcov
      rw [hcov] at hR
      clear hcov
      unfold VSC
      refine spec_l12Names h0 h0' (fine_asc hx) (fine_asc hy) (by omega) fun nv F s1 k1 on fn => ?_
      generalize namesU (namesOf (a.getD zeroT) ++ namesOf (b.getD zeroT)) = L at *
      generalize hW : (fun nm => covP n ms (ps ++ [nm]) (kidT (a.getD zeroT) nm) (kidT (b.getD zeroT) nm)) = W at hR
      refine loop_rule (m := L.length) (fun c l st => ∃ j : Nat, c + j = L.length ∧ Keeps σ st ∧ OStrs w0 st F nv L ∧ (L.take j).all W = true ∧
          l = [v, mv, .bool false, nv, .int .i64 (j : Nat), .bool (isDir (a.getD zeroT)), .int .i64 (modeOf (a.getD zeroT)), .string (dataOf (a.getD zeroT)), u, w, .bool (isDir (b.getD zeroT)), .int .i64 (modeOf (b.getD zeroT)), .string (dataOf (b.getD zeroT)), u', w']) ?_
        ⟨0, by omega, k1, on, by simp, rfl⟩
      rintro c l st L' ⟨j, hcj, ks, hon, hal, rfl⟩ hL'
      simp only [vget, List.getD_cons_zero, List.getD_cons_succ]
      have onr := hon.rel (ok_str w0)
      rw [onr.len, pBin_lt, pIf_d]
      refine ⟨fun hj => ?_, fun hj => ?_⟩
      · have hnm := List.getElem?_eq_getElem (show j < L.length by omega)
        generalize L[j]'(by omega) = nm at hnm
        have hmem := hLm nm (List.mem_of_getElem? hnm)
        have hn0 : n ≠ 0 := by
          rcases hmem with hm | hm
          · exact kid_level hx hm
          · exact kid_level hy hm
        obtain ⟨n', rfl⟩ := Nat.exists_eq_succ_of_ne_zero hn0
        have hsz5 : nm.size ≤ 5 := by
          rcases hmem with h | h
          · exact name_short hx.1 h
          · exact name_short hy.1 h
        refine RSl.at1 onr hnm fun g hg hgs => ?_
        rw [hg]
        refine spec_l12Kid (mono_rt _ _ _ _ _ ks.le h0) hx hgs fun e1 s2 k2 r1 => ?_
        have r10 := r1
        obtain ⟨u2, w2, rfl, _, _, _, _, hp2⟩ := r1.cells
        rw [pExtract_s rfl, pExtract_s rfl, hp2]
        refine RSl.at1 (onr.mono k2.le fun _ _ h => h) hnm fun g' hg' _ => ?_
        rw [hg']
        refine spec_l12Kid (mono_rt _ _ _ _ _ (ks.trans k2).le h0') hy hgs fun e2 s3 k3 r2 => ?_
        have r20 := r2
        obtain ⟨u3, w3, rfl, _, _, _, _, hp3⟩ := r2.cells
        rw [pExtract_s rfl, pExtract_s rfl, hp3]
        have K3 := (ks.trans k2).trans k3
        refine RSl.at1 (onr.mono (k2.trans k3).le fun _ _ h => h) hnm fun g2 hg2 _ => ?_
        rw [hg2]
        refine spec_path (hv.mono K3.le fun _ _ h => h) (by omega) (by omega) fun pv PF s4 k4 op fp => ?_
        simp only [cellOf_agg, List.getD_cons_zero, List.getD_cons_succ]
        have f1 := fine_getD (kid_fineT hx nm)
        have f2 := fine_getD (kid_fineT hy nm)
        have K4 := K3.trans k4
        have hne' : ¬ (kidT (a.getD zeroT) nm = none ∧ kidT (b.getD zeroT) nm = none) := fun h => by
          rcases hmem with hm | hm
          · exact kid_there hx.1 hm h.1
          · exact kid_there hy.1 hm h.2
        refine ih (a := kidT (a.getD zeroT) nm) (b := kidT (b.getD zeroT) nm) (op.rel (ok_str w0)) (hm.mono K4.le fun _ _ => mono_mk K4.le) (RT_short _ _ _ _ _ (mono_rt _ _ _ _ _ (k3.trans k4).le r10) f1.1) (RT_short _ _ _ _ _ (mono_rt _ _ _ _ _ k4.le r20) f2.1) (kid_fineT hx nm) (kid_fineT hy nm) hne'
          (by rw [List.length_append, sumS_snoc]; simp only [List.length_cons, List.length_nil]; omega) fun s5 k5 => ?_
        have hW1 : covP (n' + 1) ms (ps ++ [nm]) (kidT (a.getD zeroT) nm) (kidT (b.getD zeroT) nm) = W nm := by rw [← hW]
        rw [hW1, pUn_not, pIf_b]
        have K5 := K4.trans k5
        refine ⟨fun hb => ?_, fun hb => ?_⟩
        · have hb' : W nm = false := by simpa using hb
          have := hR s5 K5
          rw [all_bad hnm hb'] at this
          exact this
        · have hb' : W nm = true := by simpa using hb
          rw [pBin_add (by omega)]
          have kk := ((k2.trans k3).trans k4).trans k5
          exact hL' _ _ (c - 1) (by omega) ⟨j + 1, by omega, K5, hon.frame (ok_str w0) (kk.but_at fun i hi => (hon.dom (ok_str w0) i hi).2), by rw [all_take hnm, hal, hb']; rfl, by simp⟩
      · have e : j = L.length := by omega
        subst e
        rw [List.take_length] at hal
        have := hR st ks
        rw [hal] at this
        exact this
    -- what differs
    have DIFF : diffB a b = true → AC Tryz.prog w0 n_spec_l11Marked [mv, v] σ (fun v1 s2 => pUn UnOp.not v1 (fun v3 => pIf v3 (R (.bool false) s2) (VSC w0 v mv (.bool (isDir (a.getD zeroT))) (.int .i64 (modeOf (a.getD zeroT))) (.string (dataOf (a.getD zeroT))) u w (.bool (isDir (b.getD zeroT))) (.int .i64 (modeOf (b.getD zeroT))) (.string (dataOf (b.getD zeroT))) u' w' s2 R))) := by
      intro hd
      refine spec_l11Marked hm hv ?_
      rw [pUn_not, pIf_b]
      refine ⟨fun hmk => ?_, fun hmk => ?_⟩
      · have hmk' : markedB ms ps = false := by simpa using hmk
        have := hR σ (Keeps.refl _)
        rw [hcov, hd, hmk'] at this
        exact this
      · have hmk' : markedB ms ps = true := by simpa using hmk
        exact TAIL (by rw [hmk']; simp)
    have eb : ∀ (p q : Bool) (K : Value → Prop), pBin Tryz.prog 4 .neq (.bool p) (.bool q) K ↔ K (.bool !(p == q)) := fun p q K => pBin_b (by kernel_rfl) rfl
    rw [eb, pIf_b]
    cases a with
    | none =>
      cases b with
      | none => exact absurd ⟨rfl, rfl⟩ hne
      | some y => exact ⟨fun _ => DIFF rfl, fun h => by cases h⟩
    | some x =>
      cases b with
      | none => exact ⟨fun _ => DIFF rfl, fun h => by cases h⟩
      | some y =>
        refine ⟨fun h => (by cases h), fun _ => ?_⟩
        have hdf : diffB (some x) (some y) = !(decide (isDir x = isDir y) && (decide (modeOf x = modeOf y) && decide (dataOf x = dataOf y))) := rfl
        rw [eb, pIf_b]
        refine ⟨fun hd => DIFF ?_, fun hd => ?_⟩
        · have : ¬ isDir x = isDir y := by simpa using hd
          rw [hdf, decide_eq_false this]; rfl
        have hd' : isDir x = isDir y := by simpa using hd
        rw [pBin_ne, pIf_d]
        refine ⟨fun hmo => DIFF ?_, fun hmo => ?_⟩
        · rw [hdf, decide_eq_false (show ¬ modeOf x = modeOf y from hmo)]; simp
        have hmo' : modeOf x = modeOf y := Decidable.not_not.1 hmo
        rw [pBin_sne, pIf_d]
        refine ⟨fun hda => DIFF ?_, fun hda => TAIL ?_⟩
        · rw [hdf, decide_eq_false (show ¬ dataOf x = dataOf y from hda)]; simp
        · have hda' : dataOf x = dataOf y := Decidable.not_not.1 hda
          rw [hdf, decide_eq_true hd', decide_eq_true hmo', decide_eq_true hda']; rfl

/-- The names one by one, by the program's hand. -/
def VIC (w0 : World) (v p q mv : Value) (s : Vw) (R : Value → Vw → Prop) : Prop :=
  AC Tryz.prog w0 n_impl_either [p, q] s (fun v25 s26 => pLen v25 (fun v27 => pLoop (fun l28 K29 s30 => pBin Tryz.prog 3 .lss (vget l28 7) (vget l28 6) (fun v31 => pIf v31 (pIndexAddr 1 (vget l28 5) (vget l28 7) (fun v32 => pLoad w0 1 v32 s30 (fun g33 => AC Tryz.prog w0 n_impl_below [vget l28 0, g33 0] s30 (fun v34 s35 => AC Tryz.prog w0 n_p_impl_Tree_kid [vget l28 1, g33 0] s35 (fun v36 s37 => AC Tryz.prog w0 n_p_impl_Tree_kid [vget l28 2, g33 0] s37 (fun v38 s39 => AC Tryz.prog w0 n_impl_covers [v34, v36, v38, vget l28 3] s39 (fun v40 s41 => pUn UnOp.not v40 (fun v42 => pIf v42 (K29 AX.ret [vget l28 0, vget l28 1, vget l28 2, vget l28 3, .bool false, vget l28 5, vget l28 6, vget l28 7] s41) (pBin Tryz.prog 3 .add (vget l28 7) (.int .i64 1) (fun v43 => K29 AX.normal [vget l28 0, vget l28 1, vget l28 2, vget l28 3, vget l28 4, vget l28 5, vget l28 6, v43] s41)))))))))) (K29 (AX.exit 0) [vget l28 0, vget l28 1, vget l28 2, vget l28 3, vget l28 4, vget l28 5, vget l28 6, vget l28 7] s30))) [v, p, q, mv, .bool false, v25, v27, .int .i64 0] s26 (fun x44 l45 s46 => match x44 with | .normal => R (.bool true) s46 | .ret => R (vget l45 4) s46 | .exit i47 => (match Nat.beq i47 0 with | true => R (.bool true) s46 | false => False))))
def VIT (w0 : World) (v a1 a2 mv : Value) (s : Vw) (R : Value → Vw → Prop) : Prop :=
  pVal true 5 (.agg (⟨[.bool false, .int .i64 0, .string ({ data := #[] }), .slice none 0 0, .slice none 0 0]⟩)) (pNew w0 t_impl_Tree ([.bool false, .int .i64 0, .string ({ data := #[] }), .slice none 0 0, .slice none 0 0]) s (fun n21 s22 => pBin Tryz.prog t_p_impl_Tree .eql a1 (.pointer none) (fun v23 => pIf v23 (pBin Tryz.prog t_p_impl_Tree .eql a2 (.pointer none) (fun v24 => pIf v24 (VIC w0 v (.pointer (some (Addr.mk n21 0 none))) (.pointer (some (Addr.mk n21 0 none))) mv s22 R) (VIC w0 v (.pointer (some (Addr.mk n21 0 none))) a2 mv s22 R))) (pBin Tryz.prog t_p_impl_Tree .eql a2 (.pointer none) (fun v71 => pIf v71 (VIC w0 v a1 (.pointer (some (Addr.mk n21 0 none))) mv s22 R) (VIC w0 v a1 a2 mv s22 R))))))

theorem impl_covers : ∀ (n : Nat) {σ : Vw} {v mv p q : Value} {ps : List ByteArray} {ms : List Mk} {a b : Option Tr} {R : Value → Vw → Prop}, RSl 1 RS (Av.get w0 σ) v ps → RSl 2 RMk (Av.get w0 σ) mv ms → PO n (Av.get w0 σ) p a → PO n (Av.get w0 σ) q b → fineO n a → fineO n b →
    ¬ (a = none ∧ b = none) → ps.length + sumS ps + 6 * n ≤ 1000000 → (∀ s, Keeps σ s → R (.bool (covP n ms ps a b)) s) → AC Tryz.prog w0 n_impl_covers [v, p, q, mv] σ R := by
  intro n
  induction n with
  | zero =>
    intro σ v mv p q ps ms a b R _ _ ha hb _ _ hne
    exfalso
    cases a with
    | some x => obtain ⟨_, _, _, _, _, h⟩ := ha; exact h
    | none => cases b with
      | some x => obtain ⟨_, _, _, _, _, h⟩ := hb; exact h
      | none => exact hne ⟨rfl, rfl⟩
  | succ n ih =>
    intro σ v mv p q ps ms a b R hv hm ha hb hfa hfb hne hps hR
    have hx := fine_getD hfa
    have hy := fine_getD hfb
    refine ac_impl_covers ?_
    unfold vc_impl_covers cs_impl_covers_3 cs_impl_covers_1 cs_impl_covers_2
    have hcov := covP_names (ms := ms) (ps := ps) hx hy
    have hl1 := fine_len hx
    have hl2 := fine_len hy
    have hLl := names_both hx hy
    have hLm : ∀ z, z ∈ namesU (namesOf (a.getD zeroT) ++ namesOf (b.getD zeroT)) → z ∈ namesOf (a.getD zeroT) ∨ z ∈ namesOf (b.getD zeroT) := fun z hz => by rw [namesU_mem, List.mem_append] at hz; exact hz
    have LOOP : (!diffB a b || markedB ms ps) = true → ∀ (s : Vw) (p q : Value), Keeps σ s → PT (n + 1) (Av.get w0 s) p (a.getD zeroT) → PT (n + 1) (Av.get w0 s) q (b.getD zeroT) → VIC w0 v p q mv s R := by
      intro hd s p q k0 hpa hpb
      rw [hd, Bool.true_and] at hcov
      rw [hcov] at hR
      clear hcov
      unfold VIC
      refine impl_either hpa hpb (by omega) fun nv F s1 k1 on fn => ?_
      rw [(on.rel (ok_str w0)).len]
      generalize namesU (namesOf (a.getD zeroT) ++ namesOf (b.getD zeroT)) = L at *
      generalize hW : (fun nm => covP n ms (ps ++ [nm]) (kidT (a.getD zeroT) nm) (kidT (b.getD zeroT) nm)) = W at hR
      refine loop_rule (m := L.length) (fun c l st => ∃ j : Nat, c + j = L.length ∧ Keeps s st ∧ OStrs w0 st F nv L ∧ (L.take j).all W = true ∧
          l = [v, p, q, mv, .bool false, nv, .int .i64 (L.length : Nat), .int .i64 (j : Nat)]) ?_
        ⟨0, by omega, k1, on, by simp, rfl⟩
      rintro c l st L' ⟨j, hcj, ks, hon, hal, rfl⟩ hL'
      simp only [vget, List.getD_cons_zero, List.getD_cons_succ]
      have onr := hon.rel (ok_str w0)
      rw [pBin_lt, pIf_d]
      refine ⟨fun hj => ?_, fun hj => ?_⟩
      · have hnm := List.getElem?_eq_getElem (show j < L.length by omega)
        generalize L[j]'(by omega) = nm at hnm
        have hmem := hLm nm (List.mem_of_getElem? hnm)
        have hsz5 : nm.size ≤ 5 := by
          rcases hmem with h | h
          · exact name_short hx.1 h
          · exact name_short hy.1 h
        refine RSl.at1 onr hnm fun g hg hgs => ?_
        rw [hg]
        refine below_path (hv.mono (k0.trans ks).le fun _ _ h => h) (by omega) (by omega) fun pv PF s4 k4 op fp => ?_
        have K4 := ks.trans k4
        refine impl_kid (hpa.mono K4.le) (short_wf _ _ hx.1) fun qa hqa => ?_
        refine impl_kid (hpb.mono K4.le) (short_wf _ _ hy.1) fun qb hqb => ?_
        have hne' : ¬ (kidT (a.getD zeroT) nm = none ∧ kidT (b.getD zeroT) nm = none) := fun h => by
          rcases hmem with hm | hm
          · exact kid_there hx.1 hm h.1
          · exact kid_there hy.1 hm h.2
        refine ih (op.rel (ok_str w0)) (hm.mono (k0.trans K4).le fun _ _ => mono_mk (k0.trans K4).le) hqa hqb (kid_fineT hx nm) (kid_fineT hy nm) hne'
          (by rw [List.length_append, sumS_snoc]; simp only [List.length_cons, List.length_nil]; omega) fun s5 k5 => ?_
        have hW1 : covP n ms (ps ++ [nm]) (kidT (a.getD zeroT) nm) (kidT (b.getD zeroT) nm) = W nm := by rw [← hW]
        rw [hW1, pUn_not, pIf_b]
        have K5 := K4.trans k5
        refine ⟨fun hb => ?_, fun hb => ?_⟩
        · have hb' : W nm = false := by simpa using hb
          have := hR s5 (k0.trans K5)
          rw [all_bad hnm hb'] at this
          exact this
        · have hb' : W nm = true := by simpa using hb
          rw [pBin_add (by omega)]
          have kk := k4.trans k5
          exact hL' _ _ (c - 1) (by omega) ⟨j + 1, by omega, K5, hon.frame (ok_str w0) (kk.but_at fun i hi => (hon.dom (ok_str w0) i hi).2), by rw [all_take hnm, hal, hb']; rfl, by simp⟩
      · have e : j = L.length := by omega
        subst e
        rw [List.take_length] at hal
        have := hR st (k0.trans ks)
        rw [hal] at this
        exact this
    have TAIL : (!diffB a b || markedB ms ps) = true → ∀ s : Vw, Keeps σ s → VIT w0 v p q mv s R := by
      intro hd s k0
      unfold VIT
      rw [pVal_5 rfl rfl rfl rfl rfl]
      intro b1 hb1 hb2
      have kb : Keeps s (s.put b1 ⟨t_impl_Tree, [.bool false, .int .i64 0, .string ⟨#[]⟩, .slice none 0 0, .slice none 0 0], 5, (0, 0)⟩) := Keeps.put hb2
      have pz := PT.new (ety := t_impl_Tree) (c := 5) (RT_zero n (Av.get w0 s)) hb1 hb2
      have K := k0.trans kb
      cases a with
      | none =>
        obtain rfl : p = .pointer none := ha
        rw [pBin_nil ptr_tree, pIf_b]
        refine ⟨fun _ => ?_, fun h => by cases h⟩
        cases b with
        | none => exact absurd ⟨rfl, rfl⟩ hne
        | some y =>
          have hb' := hb
          obtain ⟨bd, es', rfl, _⟩ := hb'
          have hb : PT (n + 1) (Av.get w0 σ) (.pointer (some bd)) y := hb
          rw [pBin_nil ptr_tree, pIf_b]
          exact ⟨fun h => (by cases h), fun _ => LOOP hd _ _ _ K pz (hb.mono K.le)⟩
      | some x =>
        have ha' := ha
        obtain ⟨ad, es, rfl, _⟩ := ha'
        have ha : PT (n + 1) (Av.get w0 σ) (.pointer (some ad)) x := ha
        rw [pBin_nil ptr_tree, pIf_b]
        refine ⟨fun h => (by cases h), fun _ => ?_⟩
        cases b with
        | none =>
          obtain rfl : q = .pointer none := hb
          rw [pBin_nil ptr_tree, pIf_b]
          exact ⟨fun _ => LOOP hd _ _ _ K (ha.mono K.le) pz, fun h => by cases h⟩
        | some y =>
          have hb' := hb
          obtain ⟨bd, es', rfl, _⟩ := hb'
          have hb : PT (n + 1) (Av.get w0 σ) (.pointer (some bd)) y := hb
          rw [pBin_nil ptr_tree, pIf_b]
          exact ⟨fun h => (by cases h), fun _ => LOOP hd _ _ _ K (ha.mono K.le) (hb.mono K.le)⟩
    have DIFF : diffB a b = true → AC Tryz.prog w0 n_impl_marked [mv, v] σ (fun v18 s19 => pUn UnOp.not v18 (fun v20 => pIf v20 (R (.bool false) s19) (VIT w0 v p q mv s19 R))) := by
      intro hd
      refine impl_marked hm hv fun s k => ?_
      rw [pUn_not, pIf_b]
      refine ⟨fun hmk => ?_, fun hmk => ?_⟩
      · have hmk' : markedB ms ps = false := by simpa using hmk
        have := hR s k
        rw [hcov, hd, hmk'] at this
        exact this
      · have hmk' : markedB ms ps = true := by simpa using hmk
        exact TAIL (by rw [hmk']; simp) s k
    have NDIFF : ∀ c : Bool, c = false → diffB a b = true → pUn UnOp.not (.bool c) (fun z => pIf z (AC Tryz.prog w0 n_impl_marked [mv, v] σ (fun v18 s19 => pUn UnOp.not v18 (fun v20 => pIf v20 (R (.bool false) s19) (VIT w0 v p q mv s19 R)))) (VIT w0 v p q mv σ R)) := by
      intro c hc hd
      subst hc
      rw [pUn_not, pIf_b]
      exact ⟨fun _ => DIFF hd, fun h => by cases h⟩
    cases a with
    | none =>
      obtain rfl : p = .pointer none := ha
      rw [pBin_nnil ptr_tree, pIf_b]
      exact ⟨fun h => (by cases h), fun _ => NDIFF _ rfl rfl⟩
    | some x =>
      have ha' := ha
      obtain ⟨ad, es, rfl, _⟩ := ha'
      have ha : PT (n + 1) (Av.get w0 σ) (.pointer (some ad)) x := ha
      rw [pBin_nnil ptr_tree, pIf_b]
      refine ⟨fun _ => ?_, fun h => by cases h⟩
      cases b with
      | none =>
        obtain rfl : q = .pointer none := hb
        rw [pBin_nnil ptr_tree, pIf_b]
        exact ⟨fun h => (by cases h), fun _ => NDIFF _ rfl rfl⟩
      | some y =>
        have hb' := hb
        obtain ⟨bd, es', rfl, _⟩ := hb'
        have hb : PT (n + 1) (Av.get w0 σ) (.pointer (some bd)) y := hb
        rw [pBin_nnil ptr_tree, pIf_b]
        refine ⟨fun _ => ?_, fun h => by cases h⟩
        have hdf : diffB (some x) (some y) = !(decide (isDir x = isDir y) && (decide (modeOf x = modeOf y) && decide (dataOf x = dataOf y))) := rfl
        refine PT.ld ha 0 (by omega) fun es1 g1 he1 hg1 => ?_
        obtain ⟨u1, w1, rfl, _⟩ := he1.cells
        simp only [List.getElem?_cons_zero, Option.some.injEq] at hg1
        refine PT.ld hb 0 (by omega) fun es2 g2 he2 hg2 => ?_
        obtain ⟨u2, w2, rfl, _⟩ := he2.cells
        simp only [List.getElem?_cons_zero, Option.some.injEq] at hg2
        have eb : ∀ K : Value → Prop, pBin Tryz.prog 4 .eql (.bool (isDir x)) (.bool (isDir y)) K ↔ K (.bool (isDir x == isDir y)) := fun K => pBin_b (by kernel_rfl) rfl
        rw [← hg1, ← hg2, eb, pIf_b]
        refine ⟨fun hd => ?_, fun hd => NDIFF _ rfl ?_⟩
        · have hd' : isDir x = isDir y := by simpa using hd
          refine PT.ld ha 1 (by omega) fun es1 g1 he1 hg1 => ?_
          obtain ⟨u1, w1, rfl, _⟩ := he1.cells
          simp only [List.getElem?_cons_zero, List.getElem?_cons_succ, Option.some.injEq] at hg1
          refine PT.ld hb 1 (by omega) fun es2 g2 he2 hg2 => ?_
          obtain ⟨u2, w2, rfl, _⟩ := he2.cells
          simp only [List.getElem?_cons_zero, List.getElem?_cons_succ, Option.some.injEq] at hg2
          rw [← hg1, ← hg2, pBin_eq, pIf_d]
          refine ⟨fun hmo => ?_, fun hmo => NDIFF _ rfl ?_⟩
          · refine PT.ld ha 2 (by omega) fun es1 g1 he1 hg1 => ?_
            obtain ⟨u1, w1, rfl, _⟩ := he1.cells
            simp only [List.getElem?_cons_zero, List.getElem?_cons_succ, Option.some.injEq] at hg1
            refine PT.ld hb 2 (by omega) fun es2 g2 he2 hg2 => ?_
            obtain ⟨u2, w2, rfl, _⟩ := he2.cells
            simp only [List.getElem?_cons_zero, List.getElem?_cons_succ, Option.some.injEq] at hg2
            rw [← hg1, ← hg2, pBin_seq, pUn_not, pIf_b]
            refine ⟨fun hda => DIFF ?_, fun hda => TAIL ?_ σ (Keeps.refl _)⟩
            · have : ¬ dataOf x = dataOf y := by simpa using hda
              rw [hdf, decide_eq_false this]; simp
            · have : dataOf x = dataOf y := by simpa using hda
              rw [hdf, decide_eq_true hd', decide_eq_true hmo, decide_eq_true this]; rfl
          · rw [hdf, decide_eq_false hmo]; simp
        · have : ¬ isDir x = isDir y := by simpa using hd
          rw [hdf, decide_eq_false this]; rfl
theorem spec_TrailCovers {n m : Nat} {es es' : List Value} {v : Value} {x y : Tr} {ms : List Mk} (h : RT n (Av.get w0 σ) es x) (h' : RT m (Av.get w0 σ) es' y) (hv : RSl 2 RMk (Av.get w0 σ) v ms) (hb : cntT n x ≤ 1000000000000) (hb' : cntT m y ≤ 1000000000000) {R : Value → Vw → Prop}
    (hR : ∀ s, Keeps σ s → R (.bool (coversX n m x y ms)) s) : AC Tryz.prog w0 n_spec_TrailCovers [.agg ⟨es⟩, .agg ⟨es'⟩, v] σ R := by
  have h0 := h
  have h0' := h'
  obtain ⟨u, w, rfl, _, _, _, _, hp⟩ := h.cells
  obtain ⟨u', w', rfl, _, _, _, _, hp'⟩ := h'.cells
  refine ac_spec_TrailCovers ?_
  unfold vc_spec_TrailCovers
  rw [hp, hp']
  simp only [cellOf_agg, List.getD_cons_zero, List.getD_cons_succ]
  have R0 := hR σ (Keeps.refl _)
  refine spec_TreeOk h0 hb (pIf_b.2 ⟨fun hok => ?_, fun hno => by rw [coversX, hno] at R0; exact R0⟩)
  refine spec_TreeOk h0' hb' (pIf_b.2 ⟨fun hok' => ?_, fun hno => by rw [coversX, hok, hno] at R0; exact R0⟩)
  refine spec_TrailOk hv (pIf_b.2 ⟨fun hmk => ?_, fun hno => by rw [coversX, hok, hok', hno] at R0; exact R0⟩)
  obtain ⟨d1, x1, c1⟩ := ok_fineT hok
  obtain ⟨d2, x2, c2⟩ := ok_fineT hok'
  intro b hb1 hb2
  have k1 : Keeps σ (σ.put b ⟨t_string, [], 0, (0, 0)⟩) := Keeps.put hb2
  have hpp : RSl 1 RS (Av.get w0 (σ.put b ⟨t_string, [], 0, (0, 0)⟩)) (.slice (some ⟨b, 0, none⟩) 0 0) [] := (OAcc.new (w0 := w0) (σ := σ) (ety := t_string) (n := 1) (O := OStr) hb1).osl.rel (ok_str w0)
  refine spec_Covers 5 (a := some x) (b := some y) hpp (hv.mono k1.le fun _ _ => mono_mk k1.le) (mono_rt 5 _ _ _ _ k1.le (d1 _ _ h0)) (mono_rt 5 _ _ _ _ k1.le (d2 _ _ h0')) (fun z hz => by cases hz; exact x1) (fun z hz => by cases hz; exact x2) (fun h => by cases h.1) (by simp [sumS]) fun s k => ?_
  have := hR s (k1.trans k)
  rw [coversX, hok, hok', hmk] at this
  exact this

theorem impl_TrailCovers {n m : Nat} {es es' : List Value} {v : Value} {x y : Tr} {ms : List Mk} (h : RT n (Av.get w0 σ) es x) (h' : RT m (Av.get w0 σ) es' y) (hv : RSl 2 RMk (Av.get w0 σ) v ms) (hb : cntT n x ≤ 1000000000000) (hb' : cntT m y ≤ 1000000000000) {R : Value → Vw → Prop}
    (hR : ∀ s, Keeps σ s → R (.bool (coversX n m x y ms)) s) : AC Tryz.prog w0 n_impl_TrailCovers [.agg ⟨es⟩, .agg ⟨es'⟩, v] σ R := by
  have h0 := h
  have h0' := h'
  obtain ⟨e0, e1, e2, e3, e4, rfl, _, hpv⟩ := RT.five h
  obtain ⟨e0', e1', e2', e3', e4', rfl, _, hpv'⟩ := RT.five h'
  refine ac_impl_TrailCovers ?_
  unfold vc_impl_TrailCovers
  rw [hpv]
  simp only [cellOf_agg, List.getD_cons_zero, List.getD_cons_succ]
  intro a ha1 ha2
  have k1 : Keeps σ (σ.put a ⟨t_impl_Tree, [e0, e1, e2, e3, e4], 5, (0, 0)⟩) := Keeps.put ha2
  have p1 := PT.new (ety := t_impl_Tree) (c := 5) h0 ha1 ha2
  rw [hpv']
  intro b hb1 hb2
  have k2 := Keeps.put (r := ⟨t_impl_Tree, [e0', e1', e2', e3', e4'], 5, (0, 0)⟩) hb2
  have p2 := PT.new (ety := t_impl_Tree) (c := 5) (mono_rt _ _ _ _ _ k1.le h0') hb1 hb2
  have p1' := p1.mono k2.le
  have K2 := k1.trans k2
  generalize hs : Vw.put _ b _ = s at k2 p2 p1' K2
  clear hs
  have R0 := hR s K2
  refine PT.load p1' fun g hg => ?_
  refine impl_TreeOk hg hb (pIf_b.2 ⟨fun hok => ?_, fun hno => by rw [coversX, hno] at R0; exact R0⟩)
  refine PT.load p2 fun g' hg' => ?_
  refine impl_TreeOk hg' hb' (pIf_b.2 ⟨fun hok' => ?_, fun hno => by rw [coversX, hok, hno] at R0; exact R0⟩)
  have hvs := hv.mono K2.le fun _ _ => mono_mk K2.le
  refine impl_TrailOk hvs (pIf_b.2 ⟨fun hmk => ?_, fun hno => by rw [coversX, hok, hok', hno] at R0; exact R0⟩)
  obtain ⟨d1, x1, c1⟩ := ok_fineT hok
  obtain ⟨d2, x2, c2⟩ := ok_fineT hok'
  refine impl_covers 5 (ps := []) (nil_in (G := []) s (KeepsBut.refl _ _)) hvs (a := some x) (b := some y) (PT_of d1 p1') (PT_of d2 p2) (fun z hz => by cases hz; exact x1) (fun z hz => by cases hz; exact x2) (fun h => by cases h.1) (by simp [sumS]) fun s' k => ?_
  have := hR s' (K2.trans k)
  rw [coversX, hok, hok', hmk] at this
  exact this

end
end Go.Proofs.YtkbhjejalkbogaaGreat

/- What a trail leads to, by the program's hand. -/
set_option linter.unusedVariables false
set_option linter.unusedSimpArgs false
set_option maxRecDepth 20000
namespace Go.Proofs.YtkbhjejalkbogaaGreat
open Go Go.Av

theorem leads_take {ms : List Mk} {p : List ByteArray} {j : Nat} {x : Mk} (h : ms[j]? = some x) : leadsB (ms.take (j + 1)) p = (leadsB (ms.take j) p || within x.1 p) := by
  unfold leadsB
  rw [List.take_add_one, h, List.any_append]; simp
theorem leads_hit {ms : List Mk} {p : List ByteArray} {j : Nat} {x : Mk} (h : ms[j]? = some x) (h2 : within x.1 p = true) : leadsB ms p = true := List.any_eq_true.2 ⟨x, List.mem_of_getElem? h, h2⟩
noncomputable def lookW (n : Nat) (ms : List Mk) (ps : List ByteArray) (x y : Tr) (nm : ByteArray) : List En := if leadsB ms (ps ++ [nm]) = true then lookE n ms (ps ++ [nm]) (kidT x nm) (kidT y nm) else []
noncomputable def lookV (n : Nat) (ms : List Mk) (ps : List ByteArray) (x y : Tr) (nm : ByteArray) : Nat := if leadsB ms (ps ++ [nm]) = true then lookN n ms (ps ++ [nm]) (kidT x nm) (kidT y nm) else 0
theorem lookE_names {n : Nat} {ms : List Mk} {ps : List ByteArray} {x y : Tr} (hx : fineT (n + 1) x) (hy : fineT (n + 1) y) (hd : isDir x = isDir y) (hu : underB ms ps = false) :
    lookE (n + 1) ms ps (some x) (some y) = (if markedB ms ps = true then partE ps x y else []) ++ ((namesU (namesOf x ++ namesOf y)).map (lookW n ms ps x y)).flatten ∧
    lookN (n + 1) ms ps (some x) (some y) = 1 + sumBy (lookV n ms ps x y) (namesU (namesOf x ++ namesOf y)) := by
  simp only [lookE, lookN]
  have hu' : ¬ underB ms ps = true := by rw [hu]; simp
  rw [if_pos hd, if_pos hd, if_neg hu', if_neg hu', mrg_kids hx hy, List.map_map, sumBy_map']
  exact ⟨rfl, rfl⟩

section
variable {w0 : World} {σ : Vw}

theorem impl_leads {v v' : Value} {ms : List Mk} {p : List ByteArray} (h : RSl 2 RMk (Av.get w0 σ) v ms) (h' : RSl 1 RS (Av.get w0 σ) v' p) {R : Value → Vw → Prop} (hR : R (.bool (leadsB ms p)) σ) : AC Tryz.prog w0 n_impl_leads [v, v'] σ R := by
  refine ac_impl_leads ?_
  unfold vc_impl_leads
  have hl := h.le
  rw [h.len]
  refine loop_rule (m := ms.length) (fun m l t => ∃ j, t = σ ∧ m + j = ms.length ∧ leadsB (ms.take j) p = false ∧ l = [v', .bool false, v, .int .i64 (ms.length : Nat), .int .i64 (j : Nat)]) ?_ ⟨0, rfl, by omega, rfl, rfl⟩
  rintro m l t L ⟨j, rfl, hm, ht, rfl⟩ hL
  simp only [vget, List.getD_cons_zero, List.getD_cons_succ]
  rw [pBin_lt, pIf_d]
  refine ⟨fun hj => ?_, fun hj => ?_⟩
  · have hx := List.getElem?_eq_getElem (show j < ms.length by omega)
    generalize ms[j]'(by omega) = x at hx
    refine RSl.at h hx fun g hg => ?_
    obtain ⟨u, hu, ru⟩ := hg
    simp only [expl, List.cons.injEq, and_true] at hu
    rw [hu.1, hu.2, pVal_2 ru.one rfl]
    refine impl_begins ru h' ?_
    rw [pIf_b]
    refine ⟨fun hw => ?_, fun hw => ?_⟩
    · rw [leads_hit hx hw] at hR; exact hR
    · rw [pBin_add (by omega)]
      exact hL _ _ (m - 1) (by omega) ⟨j + 1, rfl, by omega, by rw [leads_take hx, ht, hw]; rfl, by simp⟩
  · have e : j = ms.length := by omega
    subst e
    rw [List.take_length] at ht
    rw [ht] at hR; exact hR

/-- The names one by one. -/
def VIL (w0 : World) (v p q mv out : Value) (s : Vw) (R : Value → Vw → Prop) : Prop :=
  AC Tryz.prog w0 n_impl_either [p, q] s (fun v36 s37 => pLen v36 (fun v38 => pLoop (fun l39 K40 s41 => pBin Tryz.prog 3 .lss (vget l39 8) (vget l39 7) (fun v42 => pIf v42 (pIndexAddr 1 (vget l39 6) (vget l39 8) (fun v43 => pLoad w0 1 v43 s41 (fun g44 => AC Tryz.prog w0 n_impl_below [vget l39 0, g44 0] s41 (fun v45 s46 => AC Tryz.prog w0 n_impl_leads [vget l39 3, v45] s46 (fun v47 s48 => pIf v47 (AC Tryz.prog w0 n_p_impl_Tree_kid [vget l39 1, g44 0] s48 (fun v49 s50 => AC Tryz.prog w0 n_p_impl_Tree_kid [vget l39 2, g44 0] s50 (fun v51 s52 => AC Tryz.prog w0 n_impl_look [v45, v49, v51, vget l39 3] s52 (fun v53 s54 => pExtract v53 0 (fun v55 => pExtract v53 1 (fun v56 => pAppendS w0 t_impl_Entry 5 64 (vget l39 4) v55 s54 (fun v57 s58 => pBin Tryz.prog 3 .add (vget l39 5) v56 (fun v59 => pBin Tryz.prog 3 .add (vget l39 8) (.int .i64 1) (fun v60 => K40 AX.normal [vget l39 0, vget l39 1, vget l39 2, vget l39 3, v57, v59, vget l39 6, vget l39 7, v60] s58))))))))) (pBin Tryz.prog 3 .add (vget l39 8) (.int .i64 1) (fun v61 => K40 AX.normal [vget l39 0, vget l39 1, vget l39 2, vget l39 3, vget l39 4, vget l39 5, vget l39 6, vget l39 7, v61] s48))))))) (K40 (AX.exit 1) [vget l39 0, vget l39 1, vget l39 2, vget l39 3, vget l39 4, vget l39 5, vget l39 6, vget l39 7, vget l39 8] s41))) [v, p, q, mv, out, .int .i64 1, v36, v38, .int .i64 0] s37 (fun x62 l63 s64 => match x62 with | .normal => R (.tuple (⟨[vget l63 4, vget l63 5]⟩)) s64 | .ret => False | .exit i65 => (match Nat.beq i65 1 with | true => R (.tuple (⟨[vget l63 4, vget l63 5]⟩)) s64 | false => False))))

set_option maxHeartbeats 4000000 in
theorem impl_look : ∀ (n : Nat) {σ : Vw} {v mv p q : Value} {ps : List ByteArray} {ms : List Mk} {a b : Option Tr} {R : Value → Vw → Prop}, n ≤ 5 → RSl 1 RS (Av.get w0 σ) v ps → RSl 2 RMk (Av.get w0 σ) mv ms → PO n (Av.get w0 σ) p a → PO n (Av.get w0 σ) q b → fineO n a → fineO n b →
    ¬ (a = none ∧ b = none) → ps.length + sumS ps + 6 * n ≤ 1000000 → (∀ v' G s', Keeps σ s' → OAcc w0 t_impl_Entry 5 (OEn w0) s' G v' (lookE n ms ps a b) → (∀ i, i ∈ G → σ i = none) → R (.tuple ⟨[v', .int .i64 (lookN n ms ps a b : Nat)]⟩) s') →
    AC Tryz.prog w0 n_impl_look [v, p, q, mv] σ R := by
  intro n
  induction n with
  | zero =>
    intro σ v mv p q ps ms a b R _ _ _ ha hb _ _ hne
    exfalso
    cases a with
    | some x => obtain ⟨_, _, _, _, _, h⟩ := ha; exact h
    | none => cases b with
      | some x => obtain ⟨_, _, _, _, _, h⟩ := hb; exact h
      | none => exact hne ⟨rfl, rfl⟩
  | succ n ih =>
    intro σ v mv p q ps ms a b R hn5 hv hm ha hb hfa hfb hne hps hR
    have hel := lookE_len (n + 1) ms ps a b
    have hnl := lookN_le (n + 1) ms ps a b
    refine ac_impl_look ?_
    unfold vc_impl_look cs_impl_look_1
    cases a with
    | none =>
      obtain rfl : p = .pointer none := ha
      cases b with
      | none => exact absurd ⟨rfl, rfl⟩ hne
      | some y =>
        obtain ⟨f1, f2, f3⟩ := hfb y rfl
        have hb' := hb
        obtain ⟨ad, es, rfl, _⟩ := hb'
        rw [pBin_nil ptr_tree, pIf_b]
        refine ⟨fun _ => ?_, fun h => by cases h⟩
        rw [pNil_s]
        refine PT.load hb fun g hg => ?_
        rw [pNil_s]
        refine PT.load hb fun g2 hg2 => ?_
        refine impl_fresh hv hg hn5 f1 f2 hps fun v1 G1 s1 k1 o1 q1 => ⟨k1.stay, ?_⟩
        refine impl_paths (n + 1) (mono_rt _ _ _ _ _ k1.le hg2) (by omega) ?_
        exact hR v1 G1 s1 k1 o1 q1
    | some x =>
      obtain ⟨a1, a2, a3⟩ := hfa x rfl
      have ha' := ha
      obtain ⟨ad, es, rfl, _⟩ := ha'
      rw [pBin_nil ptr_tree, pIf_b]
      refine ⟨fun h => (by cases h), fun _ => ?_⟩
      cases b with
      | none =>
        obtain rfl : q = .pointer none := hb
        rw [pBin_nil ptr_tree, pIf_b]
        refine ⟨fun _ => ?_, fun h => by cases h⟩
        refine impl_gone hv (by omega) fun v1 P s1 k1 o1 f1 => ?_
        rw [pVal_5 (OSl.one' o1) rfl rfl rfl rfl]
        simp only [cellOf_agg, List.getD_cons_zero, List.getD_cons_succ]
        intro b hb1 hb2
        refine hR _ _ _ (k1.trans (Keeps.put hb2)) (OAcc.single (ok_en w0) (ety := t_impl_Entry) hb1 hb2 (gone_own o1)) fun i hi => ?_
        rcases List.mem_cons.1 hi with rfl | hi
        · exact none_old k1 hb2
        · exact f1 i hi
      | some y =>
        obtain ⟨b1, b2, b3⟩ := hfb y rfl
        have hb' := hb
        obtain ⟨bd, es', rfl, _⟩ := hb'
        have hx : fineT (n + 1) x := ⟨a1, a2, a3⟩
        have hy : fineT (n + 1) y := ⟨b1, b2, b3⟩
        have hb0 := hb
        have ha0 := ha
        have ha : PT (n + 1) (Av.get w0 σ) (.pointer (some ad)) x := ha
        have hb : PT (n + 1) (Av.get w0 σ) (.pointer (some bd)) y := hb
        rw [pBin_nil ptr_tree, pIf_b]
        refine ⟨fun h => (by cases h), fun _ => ?_⟩
        refine PT.ld ha 0 (by omega) fun es1 g1 he1 hg1 => ?_
        obtain ⟨u1, w1, rfl, _⟩ := he1.cells
        simp only [List.getElem?_cons_zero, Option.some.injEq] at hg1
        refine PT.ld hb 0 (by omega) fun es2 g2 he2 hg2 => ?_
        obtain ⟨u2, w2, rfl, _⟩ := he2.cells
        simp only [List.getElem?_cons_zero, Option.some.injEq] at hg2
        have eb : ∀ K : Value → Prop, pBin Tryz.prog 4 .neq (.bool (isDir x)) (.bool (isDir y)) K ↔ K (.bool !(isDir x == isDir y)) := fun K => pBin_b (by kernel_rfl) rfl
        rw [← hg1, ← hg2, eb, pIf_b]
        have wlk : ∀ {s : Vw} {K : Value → Vw → Prop}, Keeps σ s → (∀ v' G s', Keeps s s' → OAcc w0 t_impl_Entry 5 (OEn w0) s' G v' (walkE (n + 1) ps (some x) (some y)) → (∀ i, i ∈ G → s i = none) → K v' s') → AC Tryz.prog w0 n_impl_walk [v, .pointer (some ad), .pointer (some bd)] s K := fun {s K} k hK =>
          impl_walk (n + 1) (a := some x) (b := some y) hn5 (hv.mono k.le fun _ _ h => h) (ha.mono k.le) (hb.mono k.le) hfa hfb (fun h => by cases h.1) hps hK
        refine ⟨fun hd => ?_, fun hd => ?_⟩
        · have hd' : ¬ isDir x = isDir y := by simpa using hd
          rw [pNil_s]
          refine PT.load hb fun g hg => ?_
          refine wlk (Keeps.refl _) fun v1 G1 s1 k1 o1 q1 => ⟨k1.stay, ?_⟩
          refine impl_paths (n + 1) (mono_rt _ _ _ _ _ k1.le hg) (by omega) ?_
          have e1 : lookE (n + 1) ms ps (some x) (some y) = walkE (n + 1) ps (some x) (some y) := by simp only [lookE, walkE]; rw [if_neg hd', if_neg hd']
          have e2 : lookN (n + 1) ms ps (some x) (some y) = cntT (n + 1) y + 1 := by simp only [lookN]; rw [if_neg hd']
          have := hR v1 G1 s1 k1 (by rw [e1]; exact o1) q1
          rw [e2] at this; exact this
        have hd' : isDir x = isDir y := by simpa using hd
        refine impl_under hm hv ?_
        rw [pIf_b]
        refine ⟨fun hu => ?_, fun hu => ?_⟩
        · refine wlk (Keeps.refl _) fun v1 G1 s1 k1 o1 q1 => ?_
          refine impl_both (n + 1) (a := some x) (b := some y) (ha.mono k1.le) (hb.mono k1.le) hfa hfb fun s2 k2 => ?_
          have e1 : lookE (n + 1) ms ps (some x) (some y) = walkE (n + 1) ps (some x) (some y) := by simp only [lookE]; rw [if_pos hd', if_pos hu]
          have e2 : lookN (n + 1) ms ps (some x) (some y) = unT (n + 1) (some x) (some y) := by simp only [lookN]; rw [if_pos hd', if_pos hu]
          have := hR v1 G1 s2 (k1.trans k2) (by rw [e1]; exact o1.frame (ok_en w0) (k2.but_at fun i hi => (o1.dom (ok_en w0) i hi).2)) q1
          rw [e2] at this; exact this
        obtain ⟨eE, eN⟩ := lookE_names (ms := ms) (ps := ps) hx hy hd' hu
        rw [eE, eN] at hR
        rw [eE] at hel
        rw [eN] at hnl
        simp only [cntO] at hel hnl
        have hl1 := fine_len hx
        have hl2 := fine_len hy
        have hLl := names_both hx hy
        have hLm : ∀ z, z ∈ namesU (namesOf x ++ namesOf y) → z ∈ namesOf x ∨ z ∈ namesOf y := fun z hz => by rw [namesU_mem, List.mem_append] at hz; exact hz
        clear eE eN
        -- the names one by one
        have LOOP : ∀ (s : Vw) (ov : Value) (G1 : List Nat) (pe : List En), pe = (if markedB ms ps = true then partE ps x y else []) → Keeps σ s → OAcc w0 t_impl_Entry 5 (OEn w0) s G1 ov pe → (∀ i, i ∈ G1 → σ i = none) → VIL w0 v (.pointer (some ad)) (.pointer (some bd)) mv ov s R := by
          intro s ov G1 pe hpe k0 o1 f1
          rw [← hpe] at hR hel
          unfold VIL
          refine impl_either (ha.mono k0.le) (hb.mono k0.le) (by omega) fun nv F s2 k2 on fn => ?_
          rw [(on.rel (ok_str w0)).len]
          generalize namesU (namesOf x ++ namesOf y) = L at *
          generalize hW : lookW n ms ps x y = W at hR hel
          generalize hV : lookV n ms ps x y = V at hR hnl
          have o1' := o1.frame (ok_en w0) (k2.but_at fun i hi => (o1.dom (ok_en w0) i hi).2)
          refine loop_rule (m := L.length) (fun c l st => ∃ (j : Nat) (G : List Nat) (acc : Value), c + j = L.length ∧ Keeps σ st ∧ (∀ i, i ∈ G → σ i = none) ∧ OAcc w0 t_impl_Entry 5 (OEn w0) st G acc (pe ++ ((L.take j).map W).flatten) ∧
              OStrs w0 st F nv L ∧ (∀ i, i ∈ F → i ∉ G) ∧ l = [v, .pointer (some ad), .pointer (some bd), mv, acc, .int .i64 ((1 + sumBy V (L.take j) : Nat) : Int), nv, .int .i64 (L.length : Nat), .int .i64 (j : Nat)]) ?_
            ⟨0, G1, ov, by omega, k0.trans k2, f1, by simpa using o1', on, fun i hi hi' => (o1.dom (ok_en w0) i hi').2 (fn i hi), by simp [sumBy]⟩
          rintro c l st L' ⟨j, G, acc, hcj, ks0, hG, ho, hon, hFG, rfl⟩ hL'
          simp only [vget, List.getD_cons_zero, List.getD_cons_succ]
          rw [pBin_lt, pIf_d]
          refine ⟨fun hj => ?_, fun hj => ?_⟩
          · have hnm := List.getElem?_eq_getElem (show j < L.length by omega)
            generalize L[j]'(by omega) = nm at hnm
            have hmem := hLm nm (List.mem_of_getElem? hnm)
            have hsz : nm.size ≤ 5 := by
              rcases hmem with h | h
              · exact name_short a1 h
              · exact name_short b1 h
            refine RSl.at1 (hon.rel (ok_str w0)) hnm fun g hg hgs => ?_
            rw [hg]
            refine below_path (hv.mono ks0.le fun _ _ h => h) (by omega) (by omega) fun pv PF s3 k3 op fp => ?_
            have K3 := ks0.trans k3
            have ho3 := ho.frame (ok_en w0) (k3.but_at fun i hi => (ho.dom (ok_en w0) i hi).2)
            have hon3 := hon.frame (ok_str w0) (k3.but_at fun i hi => (hon.dom (ok_str w0) i hi).2)
            have hst := sumBy_take (f := V) hnm
            have hsl := sumBy_le (f := V) (xs := L) (j + 1)
            have hft := flat_take (f := W) hnm
            refine impl_leads (hm.mono K3.le fun _ _ => mono_mk K3.le) (op.rel (ok_str w0)) ?_
            rw [pIf_b]
            refine ⟨fun hld => ?_, fun hld => ?_⟩
            · refine impl_kid (ha.mono K3.le) (short_wf _ _ a1) fun qa hqa => ?_
              refine impl_kid (hb.mono K3.le) (short_wf _ _ b1) fun qb hqb => ?_
              have hne' : ¬ (kidT x nm = none ∧ kidT y nm = none) := fun h => by
                rcases hmem with hm | hm
                · exact kid_there a1 hm h.1
                · exact kid_there b1 hm h.2
              have hW1 : W nm = lookE n ms (ps ++ [nm]) (kidT x nm) (kidT y nm) := by rw [← hW, lookW, if_pos hld]
              have hV1 : V nm = lookN n ms (ps ++ [nm]) (kidT x nm) (kidT y nm) := by rw [← hV, lookV, if_pos hld]
              refine ih (by omega) (op.rel (ok_str w0)) (hm.mono K3.le fun _ _ => mono_mk K3.le) hqa hqb (kid_fine hfa nm) (kid_fine hfb nm) hne' (by rw [List.length_append, sumS_snoc]; simp only [List.length_cons, List.length_nil]; omega) fun v4 G4 s4 k4 o4 f4 => ?_
              rw [← hW1] at o4
              rw [← hV1]
              rw [pExtract_s rfl, pExtract_s rfl]
              have ho4 := ho3.frame (ok_en w0) (k4.but_at fun i hi => (ho3.dom (ok_en w0) i hi).2)
              have hon4 := hon3.frame (ok_str w0) (k4.but_at fun i hi => (hon3.dom (ok_str w0) i hi).2)
              have hlen : (pe ++ ((L.take j).map W).flatten).length + (W nm).length ≤ 900000 := by
                have e2 : ((L.map W).flatten).length = (((L.take (j + 1)).map W).flatten).length + (((L.drop (j + 1)).map W).flatten).length := by
                  rw [← List.length_append, ← List.flatten_append, ← List.map_append, List.take_append_drop]
                rw [hft, List.length_append] at e2
                rw [List.length_append] at hel ⊢
                omega
              have K4 := K3.trans k4
              refine ho4.allOwn (ok_en w0) o4.osl (fun i hi hi' => (ho3.dom (ok_en w0) i hi').2 (f4 i hi)) (by omega) (by omega) fun v5 G5 s5 k5 o5 f5 => ?_
              rw [pBin_add (by omega), pBin_add (by omega)]
              refine hL' _ _ (c - 1) (by omega) ⟨j + 1, G5, v5, by omega, k5.old K4 hG, fun i hi => ?_, ?_, hon4.frame (ok_str w0) (k5.at (fun i hi => (hon4.dom (ok_str w0) i hi).2) hFG), fun i hi hi' => ?_, by rw [hst]; simp; omega⟩
              · rcases f5 i hi with h | h | h
                · exact hG i h
                · exact none_old K3 (f4 i h)
                · exact none_old K4 h
              · rw [hft, ← List.append_assoc]; exact o5
              · rcases f5 i hi' with h | h | h
                · exact hFG i hi h
                · exact (hon3.dom (ok_str w0) i hi).2 (f4 i h)
                · exact (hon4.dom (ok_str w0) i hi).2 h
            · have hW1 : W nm = [] := by rw [← hW, lookW, if_neg (by rw [hld]; simp)]
              have hV1 : V nm = 0 := by rw [← hV, lookV, if_neg (by rw [hld]; simp)]
              rw [pBin_add (by omega)]
              refine hL' _ _ (c - 1) (by omega) ⟨j + 1, G, acc, by omega, K3, hG, ?_, hon3, hFG, by rw [hst, hV1]; simp⟩
              rw [hft, hW1, List.append_nil]; exact ho3
          · have e : j = L.length := by omega
            subst e
            rw [List.take_length] at ho
            have := hR acc G st ks0 ho hG
            rw [List.take_length]
            exact this
        intro b0 hb1 hb2
        have kb : Keeps σ (σ.put b0 ⟨t_impl_Entry, [], 0, (0, 0)⟩) := Keeps.put hb2
        have o0 : OAcc w0 t_impl_Entry 5 (OEn w0) (σ.put b0 ⟨t_impl_Entry, [], 0, (0, 0)⟩) [b0] (.slice (some ⟨b0, 0, none⟩) 0 0) [] := OAcc.new hb1
        have f0 : ∀ i, i ∈ [b0] → σ i = none := fun i hi => by rw [List.mem_singleton.1 hi]; exact hb2
        refine impl_marked (hm.mono kb.le fun _ _ => mono_mk kb.le) (hv.mono kb.le fun _ _ h => h) fun s1 k1 => ?_
        have K1 := kb.trans k1
        rw [pIf_b]
        refine ⟨fun hmk => ?_, fun hmk => ?_⟩
        · rw [pNil_s]
          refine PT.load (ha.mono K1.le) fun g3 hg3 => ?_
          rw [pNil_s]
          refine PT.load (hb.mono K1.le) fun g4 hg4 => ?_
          refine impl_changes (hv.mono K1.le fun _ _ h => h) (by omega) hg3 hg4 fun v1 G1 s2 k2 o1 f1 => ?_
          exact LOOP s2 v1 G1 _ (by rw [if_pos hmk]) (K1.trans k2) o1 fun i hi => none_old K1 (f1 i hi)
        · exact LOOP s1 _ [b0] [] (by rw [if_neg (by rw [hmk]; simp)]) K1 (o0.frame (ok_en w0) (k1.but_at fun i hi => (o0.dom (ok_en w0) i hi).2)) f0
end
end Go.Proofs.YtkbhjejalkbogaaGreat

/- What a trail leads to, by the reference's hand: a row of its own that holds the entries and the looks. -/
set_option linter.unusedVariables false
set_option linter.unusedSimpArgs false
set_option maxRecDepth 20000
namespace Go.Proofs.YtkbhjejalkbogaaGreat
open Go Go.Av

/-- A view without some rows. -/
def delL (σ : Vw) (F : List Nat) : Vw := fun i => if i ∈ F then none else σ i
theorem delL_none {σ : Vw} {F : List Nat} {i : Nat} (h : i ∈ F) : delL σ F i = none := by simp [delL, h]
theorem delL_out {σ : Vw} {F : List Nat} {i : Nat} (h : i ∉ F) : delL σ F i = σ i := by simp [delL, h]
theorem delL_keeps {σ : Vw} {F : List Nat} : Keeps (delL σ F) σ := fun i r h => by
  by_cases hi : i ∈ F
  · rw [delL_none hi] at h; cases h
  · rw [delL_out hi] at h; exact h
theorem keeps_delL {σ s : Vw} {F : List Nat} (k : Keeps σ s) (hF : ∀ i, i ∈ F → σ i = none) : Keeps σ (delL s F) := fun i r h => by
  by_cases hi : i ∈ F
  · rw [hF i hi] at h; cases h
  · rw [delL_out hi]; exact k i r h

/-- What a call leaves, with the rows that were kept from it. -/
def mergeL (σ : Vw) (F : List Nat) (σ' : Vw) : Vw := fun i => if i ∈ F then σ i else σ' i
theorem merge_in {σ σ' : Vw} {F : List Nat} {i : Nat} (h : i ∈ F) : mergeL σ F σ' i = σ i := by simp [mergeL, h]
theorem merge_out {σ σ' : Vw} {F : List Nat} {i : Nat} (h : i ∉ F) : mergeL σ F σ' i = σ' i := by simp [mergeL, h]
theorem del_merge {σ σ' : Vw} {F : List Nat} (h : ∀ i, i ∈ F → σ' i = none) : delL (mergeL σ F σ') F = σ' := by
  funext i
  by_cases hi : i ∈ F
  · rw [delL_none hi, h i hi]
  · rw [delL_out hi, merge_out hi]
theorem AC.hideL {P : Program} {w0 : World} {f : FuncId} {args : List Value} {σ : Vw} {R R' : Value → Vw → Prop} {F : List Nat} (h : AC P w0 f args (delL σ F) R) (hR : ∀ v σ', (∀ i, i ∈ F → σ i ≠ none → σ' i = none) → R v σ' → R' v (mergeL σ F σ')) : AC P w0 f args σ R' := by
  refine ⟨h.1, fun w hw => ?_⟩
  have hs : Sat w0 (delL σ F) w := ⟨hw.bel, fun i r' hi => hw.row i r' (delL_keeps i r' hi)⟩
  refine (h.2 w hs).mono ?_
  rintro e w' ⟨v, σ', he, hRv, ha⟩
  have hn : ∀ i, i ∈ F → σ i ≠ none → σ' i = none := fun i hi hne => by
    cases hc : σ' i with
    | none => rfl
    | some r' =>
      rcases ha.dom i r' hc with h1 | h1
      · exact absurd (delL_none hi) h1
      · cases hs' : σ i with
        | none => exact absurd hs' hne
        | some r => have := hw.lt hs'; omega
  refine ⟨v, mergeL σ F σ', he, hR v σ' hn hRv, ⟨⟨ha.sat.bel, fun i r' hi => ?_⟩, ha.size, fun i hi hni => ?_, fun i r' hi => ?_⟩⟩
  · by_cases e : i ∈ F
    · rw [merge_in e] at hi
      obtain ⟨h1, cur, h2, h3⟩ := hw.row i _ hi
      exact ⟨h1, cur, (ha.fr i (hw.lt hi) (delL_none e)).trans h2, h3⟩
    · rw [merge_out e] at hi
      exact ha.sat.row i r' hi
  · refine ha.fr i hi ?_
    by_cases e : i ∈ F
    · exact delL_none e
    · rw [delL_out e]; exact hni
  · by_cases e : i ∈ F
    · rw [merge_in e] at hi; exact .inl (by rw [hi]; simp)
    · rw [merge_out e] at hi
      rcases ha.dom i r' hi with h1 | h1
      · exact .inl (by rw [delL_out e] at h1; exact h1)
      · exact .inr h1

section
variable {w0 : World} {σ : Vw}

/-- A call that does not see some rows. -/
theorem hide_rows {f : FuncId} {args : List Value} {F : List Nat} (hF : ∀ i, i ∈ F → σ i ≠ none) {R R' : Value → Vw → Prop} (h : AC Tryz.prog w0 f args (delL σ F) R) (hk : ∀ v s, R v s → Keeps (delL σ F) s) (hR : ∀ v s, Keeps σ s → R v (delL s F) → R' v s) : AC Tryz.prog w0 f args σ R' := by
  refine AC.hideL h fun v σ' hn hRv => ?_
  have hd : delL (mergeL σ F σ') F = σ' := del_merge fun i hi => hn i hi (hF i hi)
  refine hR v _ (fun i r hi => ?_) (by rw [hd]; exact hRv)
  by_cases e : i ∈ F
  · rw [merge_in e]; exact hi
  · rw [merge_out e]; exact hk v σ' hRv i r (by rw [delL_out e]; exact hi)
theorem spec_l12KidB {n : Nat} {es : List Value} {x : Tr} {nm : ByteArray} {F : List Nat} (hF : ∀ i, i ∈ F → σ i ≠ none) (h : RT (n + 1) (Av.get w0 (delL σ F)) es x) (hx : fineT (n + 1) x) (hs : nm.size ≤ 9223372036854775807) {R : Value → Vw → Prop}
    (hR : ∀ es' s, Keeps σ s → RT (n + 1) (Av.get w0 (delL s F)) es' ((kidT x nm).getD zeroT) → R (.tuple ⟨[.agg ⟨es'⟩, .bool (kidT x nm).isSome]⟩) s) : AC Tryz.prog w0 n_spec_l12Kid [.agg ⟨es⟩, .string nm] σ R :=
  hide_rows hF (R := fun v s => Keeps (delL σ F) s ∧ ∃ es', v = .tuple ⟨[.agg ⟨es'⟩, .bool (kidT x nm).isSome]⟩ ∧ RT (n + 1) (Av.get w0 s) es' ((kidT x nm).getD zeroT)) (spec_l12Kid h hx hs fun es' s k r => ⟨k, es', rfl, r⟩) (fun v s h => h.1) fun v s k ⟨_, es', e, r⟩ => by
    subst e; exact hR es' s k r

abbrev ptrL (b : Nat) : Value := .pointer (some (Addr.mk b 0 none))
/-- The row of what was found. -/
def CL (w0 : World) (σ : Vw) (b : Nat) (G : List Nat) (lv ov : Value) (xs : List En) (k : Nat) : Prop :=
  w0.heap.size ≤ b ∧ b ∉ G ∧ lv.oneCell' = true ∧ (∃ ety, σ b = some ⟨ety, [lv, ov, .int .i64 (k : Nat)], 3, (0, 0)⟩) ∧ OAcc w0 t_impl_Entry 5 (OEn w0) σ G ov xs
theorem CL.keep {b : Nat} {G : List Nat} {lv ov : Value} {xs : List En} {k : Nat} {s : Vw} (h : CL w0 σ b G lv ov xs k) (ks : Keeps σ s) : CL w0 s b G lv ov xs k := by
  obtain ⟨h1, h2, h3, ⟨ety, h4⟩, h5⟩ := h
  exact ⟨h1, h2, h3, ⟨ety, ks _ _ h4⟩, h5.frame (ok_en w0) (ks.but_at fun i hi => (h5.dom (ok_en w0) i hi).2)⟩
theorem CL.dom {b : Nat} {G : List Nat} {lv ov : Value} {xs : List En} {k : Nat} (h : CL w0 σ b G lv ov xs k) : ∀ i, i ∈ b :: G → σ i ≠ none := fun i hi => by
  obtain ⟨h1, h2, h3, ⟨ety, h4⟩, h5⟩ := h
  rcases List.mem_cons.1 hi with e | hi
  · rw [e, h4]; simp
  · exact (h5.dom (ok_en w0) i hi).2
theorem CL.ld {b : Nat} {G : List Nat} {lv ov : Value} {xs : List En} {k : Nat} (h : CL w0 σ b G lv ov xs k) (o : Nat) (y : Value) (ho : [lv, ov, .int .i64 (k : Nat)][o]? = some y) {K : Value → (Nat → Value) → Prop} (hK : ∀ (q : Value) (g : Nat → Value), g 0 = y → K q g) :
    pNil (ptrL b) (pField o (ptrL b) fun q => pLoad w0 1 q σ (K q)) := by
  obtain ⟨h1, h2, h3, ⟨ety, h4⟩, h5⟩ := h
  rw [pNil_s, pField_s]
  refine ⟨_, fun _ => y, rfl, fun j hj => ?_, hK _ _ rfl⟩
  have e : j = 0 := by omega
  subst e
  rw [add_add, Nat.add_zero, addr_add, get_row h1 h4, Nat.zero_add]
  exact ho
/-- The looks are set. -/
theorem CL.st2 {b : Nat} {G : List Nat} {lv ov : Value} {xs : List En} {k k' : Nat} (h : CL w0 σ b G lv ov xs k) {K : Vw → Prop} (hK : ∀ s, KeepsBut (b :: G) σ s → CL w0 s b G lv ov xs k' → K s) :
    pNil (ptrL b) (pField 2 (ptrL b) fun q => pVal false 1 (.int .i64 (k' : Nat)) (pStore q [.int .i64 (k' : Nat)] σ K)) := by
  obtain ⟨h1, h2, h3, ⟨ety, h4⟩, h5⟩ := h
  rw [pNil_s]
  refine field_store (A := []) (C := []) (c := [lv, ov, .int .i64 (k : Nat)]) h4 rfl rfl (by simp) rfl ?_
  simp only [List.nil_append, List.append_nil, List.set_cons_succ, List.set_cons_zero]
  refine hK _ (fun i r hi hF => ?_) ⟨h1, h2, h3, ⟨ety, put_at⟩, h5.frame (ok_en w0) fun i hi => put_ne fun e => h2 (e ▸ hi)⟩
  have hib : i ≠ b := fun e => hF (by rw [e]; exact List.mem_cons_self)
  rw [put_ne hib]; exact hi
/-- The entries are set. -/
theorem CL.st1 {b ety : Nat} {G' : List Nat} {lv ov ov' : Value} {xs' : List En} {k : Nat} (h1 : w0.heap.size ≤ b) (h2 : b ∉ G') (h3 : lv.oneCell' = true) (h4 : σ b = some ⟨ety, [lv, ov, .int .i64 (k : Nat)], 3, (0, 0)⟩) (h5 : OAcc w0 t_impl_Entry 5 (OEn w0) σ G' ov' xs') {K : Vw → Prop}
    (hK : ∀ s, KeepsBut [b] σ s → CL w0 s b G' lv ov' xs' k → K s) :
    pNil (ptrL b) (pField 1 (ptrL b) fun q => pVal false 1 ov' (pStore q [ov'] σ K)) := by
  rw [pNil_s]
  refine field_store (A := []) (C := []) (c := [lv, ov, .int .i64 (k : Nat)]) h4 rfl rfl (by simp) (OSl.one' h5.osl) ?_
  simp only [List.nil_append, List.append_nil, List.set_cons_succ, List.set_cons_zero]
  refine hK _ (fun i r hi hF => ?_) ⟨h1, h2, h3, ⟨ety, put_at⟩, h5.frame (ok_en w0) fun i hi => put_ne fun e => h2 (e ▸ hi)⟩
  have hib : i ≠ b := fun e => hF (by rw [e]; exact List.mem_cons_self)
  rw [put_ne hib]; exact hi
/-- Entries of our own are put behind. -/
theorem CL.push {b : Nat} {G G2 : List Nat} {lv ov v2 : Value} {xs ys : List En} {k : Nat} (h : CL w0 σ b G lv ov xs k) (o2 : OSl w0 5 (OEn w0) σ G2 v2 ys) (hd : ∀ i, i ∈ G2 → i ∉ b :: G) (hl : xs.length + ys.length ≤ 10000000) {K : Vw → Prop}
    (hK : ∀ ov' G' s, KeepsBut (b :: G) σ s → CL w0 s b G' lv ov' (xs ++ ys) k → (∀ i, i ∈ G' → i ∈ G ∨ i ∈ G2 ∨ σ i = none) → K s) :
    pAppendS w0 t_impl_Entry 5 64 ov v2 σ (fun v12 s13 => pNil (ptrL b) (pField 1 (ptrL b) fun q => pVal false 1 v12 (pStore q [v12] s13 K))) := by
  obtain ⟨h1, h2, h3, ⟨ety, h4⟩, h5⟩ := h
  refine h5.allOwn (ok_en w0) o2 (fun i hi hi' => hd i hi (List.mem_cons_of_mem _ hi')) (by omega) (by omega) fun v' G' s kk o' f' => ?_
  have hb : b ∉ G' := fun hb => by
    rcases f' b hb with e | e | e
    · exact h2 e
    · exact hd b e List.mem_cons_self
    · rw [h4] at e; cases e
  refine CL.st1 h1 hb h3 (kk b _ h4 h2) o' fun s2 k2 c2 => ?_
  refine hK _ _ s2 (fun i r hi hF => ?_) c2 f'
  exact k2 i r (kk i r hi fun e => hF (List.mem_cons_of_mem _ e)) fun e => hF (by rw [List.mem_singleton.1 e]; exact List.mem_cons_self)

theorem spec_leads {b : Nat} {G : List Nat} {lv ov v' : Value} {xs : List En} {k : Nat} {ms : List Mk} {p : List ByteArray} (h : CL w0 σ b G lv ov xs k) (hm : RSl 2 RMk (Av.get w0 σ) lv ms) (h' : RSl 1 RS (Av.get w0 σ) v' p) {R : Value → Vw → Prop} (hR : R (.bool (leadsB ms p)) σ) : AC Tryz.prog w0 n_p_spec_l12Look_leads [ptrL b, v'] σ R := by
  refine ac_p_spec_l12Look_leads ?_
  unfold vc_p_spec_l12Look_leads
  have hl := hm.le
  refine loop_rule (m := ms.length) (fun m l t => ∃ j, t = σ ∧ m + j = ms.length ∧ leadsB (ms.take j) p = false ∧ l = [ptrL b, v', .bool false, .int .i64 (j : Nat)]) ?_ ⟨0, rfl, by omega, rfl, rfl⟩
  rintro m l t L ⟨j, rfl, hmj, ht, rfl⟩ hL
  simp only [vget, List.getD_cons_zero, List.getD_cons_succ]
  refine h.ld 0 lv rfl fun q g hg => ?_
  rw [hg, hm.len, pBin_lt, pIf_d]
  refine ⟨fun hj => ?_, fun hj => ?_⟩
  · have hx := List.getElem?_eq_getElem (show j < ms.length by omega)
    generalize ms[j]'(by omega) = x at hx
    refine h.ld 0 lv rfl fun q g hg => ?_
    rw [hg]
    refine RSl.atf hm hx 0 (by omega) fun es g1 r1 q1 => ?_
    obtain ⟨u, rfl, ru⟩ := r1
    simp only [List.getElem?_cons_zero, Option.some.injEq] at q1
    rw [← q1]
    refine spec_Within ru h' ?_
    rw [pIf_b]
    refine ⟨fun hw => ?_, fun hw => ?_⟩
    · rw [leads_hit hx hw] at hR; exact hR
    · rw [pBin_add (by omega)]
      exact hL _ _ (m - 1) (by omega) ⟨j + 1, rfl, by omega, by rw [leads_take hx, ht, hw]; rfl, by simp⟩
  · have e : j = ms.length := by omega
    subst e
    rw [List.take_length] at ht
    rw [ht] at hR; exact hR

/-- The names one by one. -/
def VSL (w0 : World) (pb v x0 x1 x2 x3 x4 y0 y1 y2 y3 y4 : Value) (s : Vw) (R : Value → Vw → Prop) : Prop :=
  AC Tryz.prog w0 n_spec_l12Names ([.agg (⟨[x0, x1, x2, x3, x4]⟩), .agg (⟨[y0, y1, y2, y3, y4]⟩)]) s (fun v86 s87 => pLoop (fun l88 K89 s90 => pLen (vget l88 2) (fun v91 => pBin Tryz.prog 3 .lss (vget l88 3) v91 (fun v92 => pIf v92 (pIndexAddr 1 (vget l88 2) (vget l88 3) (fun v93 => pLoad w0 1 v93 s90 (fun g94 => AC Tryz.prog w0 n_spec_l3Path [vget l88 1, g94 0] s90 (fun v95 s96 => AC Tryz.prog w0 n_p_spec_l12Look_leads [vget l88 0, v95] s96 (fun v97 s98 => pIf v97 (pIndexAddr 1 (vget l88 2) (vget l88 3) (fun v99 => pLoad w0 1 v99 s98 (fun g100 => AC Tryz.prog w0 n_spec_l12Kid ([.agg (⟨[vget l88 4, vget l88 5, vget l88 6, vget l88 7, vget l88 8]⟩), g100 0]) s98 (fun v101 s102 => pExtract v101 0 (fun v103 => pExtract v101 1 (fun v104 => pVal true 5 v103 (pIndexAddr 1 (vget l88 2) (vget l88 3) (fun v105 => pLoad w0 1 v105 s102 (fun g106 => AC Tryz.prog w0 n_spec_l12Kid ([.agg (⟨[vget l88 9, vget l88 10, vget l88 11, vget l88 12, vget l88 13]⟩), g106 0]) s102 (fun v107 s108 => pExtract v107 0 (fun v109 => pExtract v107 1 (fun v110 => pVal true 5 v109 (AC Tryz.prog w0 n_p_spec_l12Look_at ([vget l88 0, v95, .agg (⟨[cellOf v103 0, cellOf v103 1, cellOf v103 2, cellOf v103 3, cellOf v103 4]⟩), v104, .agg (⟨[cellOf v109 0, cellOf v109 1, cellOf v109 2, cellOf v109 3, cellOf v109 4]⟩), v110]) s108 (fun v111 s112 => pBin Tryz.prog 3 .add (vget l88 3) (.int .i64 1) (fun v113 => K89 AX.normal [vget l88 0, vget l88 1, vget l88 2, v113, vget l88 4, vget l88 5, vget l88 6, vget l88 7, vget l88 8, vget l88 9, vget l88 10, vget l88 11, vget l88 12, vget l88 13] s112))))))))))))))) (pBin Tryz.prog 3 .add (vget l88 3) (.int .i64 1) (fun v114 => K89 AX.normal [vget l88 0, vget l88 1, vget l88 2, v114, vget l88 4, vget l88 5, vget l88 6, vget l88 7, vget l88 8, vget l88 9, vget l88 10, vget l88 11, vget l88 12, vget l88 13] s98))))))) (K89 (AX.exit 1) [vget l88 0, vget l88 1, vget l88 2, vget l88 3, vget l88 4, vget l88 5, vget l88 6, vget l88 7, vget l88 8, vget l88 9, vget l88 10, vget l88 11, vget l88 12, vget l88 13] s90)))) [pb, v, v86, .int .i64 0, x0, x1, x2, x3, x4, y0, y1, y2, y3, y4] s87 (fun x115 l116 s117 => match x115 with | .normal => R (.tuple ⟨[]⟩) s117 | .ret => R (.tuple ⟨[]⟩) s117 | .exit i118 => (match Nat.beq i118 1 with | true => R (.tuple ⟨[]⟩) s117 | false => False)))

set_option maxHeartbeats 8000000 in
theorem spec_look : ∀ (n : Nat) {σ0 σ : Vw} {b : Nat} {G : List Nat} {v lv ov : Value} {es es' : List Value} {ps : List ByteArray} {ms : List Mk} {a c : Option Tr} {xs : List En} {k : Nat} {R : Value → Vw → Prop}, RSl 1 RS (Av.get w0 σ0) v ps → RSl 2 RMk (Av.get w0 σ0) lv ms → RT n (Av.get w0 σ0) es (a.getD zeroT) → RT n (Av.get w0 σ0) es' (c.getD zeroT) → fineO n a → fineO n c →
    ¬ (a = none ∧ c = none) → ps.length + sumS ps + 6 * n ≤ 1000000 → Keeps σ0 σ → (∀ i, i ∈ b :: G → σ0 i = none) → CL w0 σ b G lv ov xs k → xs.length + (lookE n ms ps a c).length ≤ 1000000 → k + lookN n ms ps a c ≤ 1000000 →
    (∀ ov' G' s, Keeps σ0 s → (∀ i, i ∈ b :: G' → σ0 i = none) → CL w0 s b G' lv ov' (xs ++ lookE n ms ps a c) (k + lookN n ms ps a c) → R (.tuple ⟨[]⟩) s) →
    AC Tryz.prog w0 n_p_spec_l12Look_at [ptrL b, v, .agg ⟨es⟩, .bool a.isSome, .agg ⟨es'⟩, .bool c.isSome] σ R := by
  intro n
  induction n with
  | zero => intro σ0 σ b G v lv ov es es' ps ms a c xs k R _ _ h; exact h.elim
  | succ n ih =>
    intro σ0 σ b G v lv ov es es' ps ms a c xs k R hv hm h h' hfa hfb hne hps k0 hF hcl hEl hNl hR
    have h0 := h
    have h0' := h'
    have hx := fine_getD hfa
    have hy := fine_getD hfb
    obtain ⟨u, w, rfl, _, _, _, _, hp⟩ := h.cells
    obtain ⟨u', w', rfl, _, _, _, _, hp'⟩ := h'.cells
    refine ac_p_spec_l12Look_at ?_
    unfold vc_p_spec_l12Look_at cs_p_spec_l12Look_at_1
    rw [hp, hp']
    simp only [cellOf_agg, List.getD_cons_zero, List.getD_cons_succ]
    have hl1 := fine_len hx
    have hl2 := fine_len hy
    -- entries of a list that a call makes
    have fin : ∀ {s : Vw} {ov1 v2 : Value} {G1 G2 : List Nat} {ys : List En} {k1 : Nat}, Keeps σ0 s → (∀ i, i ∈ b :: G1 → σ0 i = none) → CL w0 s b G1 lv ov1 xs k1 → OAcc w0 t_impl_Entry 5 (OEn w0) s G2 v2 ys → (∀ i, i ∈ G2 → σ0 i = none ∧ i ∉ b :: G1) → xs.length + ys.length ≤ 1000000 →
        ∀ {K : Vw → Prop}, (∀ ov' G' s', Keeps σ0 s' → (∀ i, i ∈ b :: G' → σ0 i = none) → CL w0 s' b G' lv ov' (xs ++ ys) k1 → K s') →
        pAppendS w0 t_impl_Entry 5 64 ov1 v2 s (fun v12 s13 => pNil (ptrL b) (pField 1 (ptrL b) fun q => pVal false 1 v12 (pStore q [v12] s13 K))) := by
      intro s ov1 v2 G1 G2 ys k1 ks hF1 c1 o2 hd hl K hK
      refine c1.push o2.osl (fun i hi => (hd i hi).2) (by omega) fun ov' G' s' kk c' f' => ?_
      refine hK ov' G' s' (kk.old ks hF1) (fun i hi => ?_) c'
      rcases List.mem_cons.1 hi with e | hi
      · exact hF1 i (e ▸ List.mem_cons_self)
      · rcases f' i hi with e | e | e
        · exact hF1 i (List.mem_cons_of_mem _ e)
        · exact (hd i e).1
        · exact none_old ks e
    have fresh : ∀ {s s' : Vw} {G1 G2 : List Nat}, Keeps σ0 s → (∀ i, i ∈ b :: G1 → s i ≠ none) → (∀ i, i ∈ G2 → s i = none) → ∀ i, i ∈ G2 → σ0 i = none ∧ i ∉ b :: G1 := fun {s s' G1 G2} ks hd hf i hi => ⟨none_old ks (hf i hi), fun h => hd i h (hf i hi)⟩
    -- all of b is new
    have uzero : ∀ y, c = some y → ∀ {s : Vw} {K : Value → Vw → Prop}, Keeps σ0 s → (∀ s', Keeps s s' → K (.int .i64 (cntT (n + 1) y + 1 : Nat)) s') → AC Tryz.prog w0 n_spec_l12Union ([.agg (⟨[.bool (isDir (c.getD zeroT)), .int .i64 (modeOf (c.getD zeroT)), .string (dataOf (c.getD zeroT)), u', w']⟩), .agg (⟨[.bool false, .int .i64 0, .string ({ data := #[] }), .slice none 0 0, .slice none 0 0]⟩)]) s K := by
      intro y hcy s K ks hK
      refine spec_Union (n + 1) (mono_rt _ _ _ _ _ ks.le h0') (RT_zero n _) hy (fine_zero n) fun s' k' => ?_
      have := unS_eq (n + 1) c none (by rw [hcy]; simp) hfb (fun z hz => by cases hz)
      simp only [Option.getD_none] at this
      rw [this, hcy]
      exact hK s' k'
    have eb : ∀ (p q : Bool) (K : Value → Prop), pBin Tryz.prog 4 .neq (.bool p) (.bool q) K ↔ K (.bool !(p == q)) := fun p q K => pBin_b (by kernel_rfl) rfl
    rw [pUn_not, pIf_b]
    cases a with
    | none =>
      refine ⟨fun _ => ?_, fun h => by cases h⟩
      cases c with
      | none => exact absurd ⟨rfl, rfl⟩ hne
      | some y =>
        have e1 : lookE (n + 1) ms ps none (some y) = linT fNew (n + 1) ps y := rfl
        have e2 : lookN (n + 1) ms ps none (some y) = cntT (n + 1) y + 1 := rfl
        rw [e1] at hEl hR
        rw [e2] at hNl hR
        refine hcl.ld 2 _ rfl fun q g hg => ?_
        rw [hg]
        refine uzero y rfl k0 fun s1 k1 => ⟨k1.stay, ?_⟩
        rw [pBin_add (by omega), show ((k : Nat) : Int) + ((cntT (n + 1) y + 1 : Nat) : Int) = ((k + (cntT (n + 1) y + 1) : Nat) : Int) by omega]
        refine (hcl.keep k1).st2 fun s2 k2 c2 => ?_
        have K2 : Keeps σ0 s2 := k2.old (k0.trans k1) hF
        refine c2.ld 1 _ rfl fun q g hg => ?_
        rw [hg]
        refine spec_new (n + 1) (hv.mono K2.le fun _ _ h => h) (mono_rt _ _ _ _ _ K2.le h0') hy.1 hy.2.1 hps fun v3 G3 s3 k3 o3 f3 => ⟨k3.stay, ?_⟩
        exact fin (K2.trans k3) hF (c2.keep k3) o3 (fresh (s' := s3) K2 c2.dom f3) hEl fun ov' G' s' a1 a2 a3 => hR ov' G' s' a1 a2 a3
    | some x =>
      refine ⟨fun h => (by cases h), fun _ => ?_⟩
      rw [pUn_not, pIf_b]
      cases c with
      | none =>
        refine ⟨fun _ => ?_, fun h => by cases h⟩
        have e1 : lookE (n + 1) ms ps (some x) none = [goneE ps] := rfl
        have e2 : lookN (n + 1) ms ps (some x) none = 1 := rfl
        rw [e1] at hEl hR
        rw [e2] at hNl hR
        refine hcl.ld 2 _ rfl fun q g hg => ?_
        rw [hg, pBin_add (by omega), show ((k : Nat) : Int) + 1 = ((k + 1 : Nat) : Int) by omega]
        refine hcl.st2 fun s2 k2 c2 => ?_
        have K2 : Keeps σ0 s2 := k2.old k0 hF
        refine c2.ld 1 _ rfl fun q g hg => ?_
        rw [hg]
        refine spec_gone (hv.mono K2.le fun _ _ h => h) (by omega) fun v3 G3 s3 k3 o3 f3 => ⟨k3.stay, ?_⟩
        exact fin (K2.trans k3) hF (c2.keep k3) o3 (fresh (s' := s3) K2 c2.dom f3) hEl fun ov' G' s' a1 a2 a3 => hR ov' G' s' a1 a2 a3
      | some y =>
        refine ⟨fun h => (by cases h), fun _ => ?_⟩
        rw [eb, pIf_b]
        refine ⟨fun hd => ?_, fun hd => ?_⟩
        · have hd' : ¬ isDir x = isDir y := by simpa using hd
          have e1 : lookE (n + 1) ms ps (some x) (some y) = [goneE ps] ++ linT fNew (n + 1) ps y := by simp only [lookE]; rw [if_neg hd']; rfl
          have e2 : lookN (n + 1) ms ps (some x) (some y) = cntT (n + 1) y + 1 := by simp only [lookN]; rw [if_neg hd']
          rw [e1] at hEl hR
          rw [e2] at hNl hR
          rw [List.length_append] at hEl
          refine hcl.ld 2 _ rfl fun q g hg => ?_
          rw [hg]
          refine uzero y rfl k0 fun s1 k1 => ⟨k1.stay, ?_⟩
          rw [pBin_add (by omega), show ((k : Nat) : Int) + ((cntT (n + 1) y + 1 : Nat) : Int) = ((k + (cntT (n + 1) y + 1) : Nat) : Int) by omega]
          refine (hcl.keep k1).st2 fun s2 k2 c2 => ?_
          have K2 : Keeps σ0 s2 := k2.old (k0.trans k1) hF
          refine c2.ld 1 _ rfl fun q g hg => ?_
          rw [hg]
          refine spec_gone (hv.mono K2.le fun _ _ h => h) (by omega) fun v3 G3 s3 k3 o3 f3 => ⟨k3.stay, ?_⟩
          have hd3 := fresh (s' := s3) K2 c2.dom f3
          have K3 := K2.trans k3
          obtain ⟨q1, q2, q3, ⟨ety, q4⟩, q5⟩ := c2.keep k3
          refine q5.allOwn (ok_en w0) o3.osl (fun i hi hi' => (hd3 i hi).2 (List.mem_cons_of_mem _ hi')) (by omega) (by omega) fun v4 G4 s4 k4 o4 f4 => ?_
          have hb4 : b ∉ G4 := fun hb => by
            rcases f4 b hb with e | e | e
            · exact q2 e
            · exact (hd3 b e).2 List.mem_cons_self
            · rw [q4] at e; cases e
          have hF4 : ∀ i, i ∈ G4 → σ0 i = none := fun i hi => by
            rcases f4 i hi with e | e | e
            · exact hF i (List.mem_cons_of_mem _ e)
            · exact (hd3 i e).1
            · exact none_old K3 e
          have K4 : Keeps σ0 s4 := k4.old K3 fun i hi => hF i (List.mem_cons_of_mem _ hi)
          have r4 := k4 b _ q4 q2
          refine spec_new (n + 1) (hv.mono K4.le fun _ _ h => h) (mono_rt _ _ _ _ _ K4.le h0') hy.1 hy.2.1 hps fun v5 G5 s5 k5 o5 f5 => ?_
          have o45 := o4.frame (ok_en w0) (k5.but_at fun i hi => (o4.dom (ok_en w0) i hi).2)
          refine o45.allOwn (ok_en w0) o5.osl (fun i hi hi' => (o4.dom (ok_en w0) i hi').2 (f5 i hi)) (by rw [List.length_append]; simp only [Option.getD_some]; omega) (by omega) fun v6 G6 s6 k6 o6 f6 => ?_
          have hb6 : b ∉ G6 := fun hb => by
            rcases f6 b hb with e | e | e
            · exact hb4 e
            · rw [f5 b e] at r4; cases r4
            · rw [k5 b _ r4] at e; cases e
          have K5 := K4.trans k5
          have K6 : Keeps σ0 s6 := k6.old K5 hF4
          refine CL.st1 q1 hb6 q3 (k6 b _ (k5 b _ r4) hb4) o6 fun s7 k7 c7 => ?_
          rw [List.append_assoc] at c7
          refine hR _ _ s7 (k7.old K6 fun i hi => by rw [List.mem_singleton.1 hi]; exact hF b List.mem_cons_self) (fun i hi => ?_) c7
          rcases List.mem_cons.1 hi with e | hi
          · exact hF i (e ▸ List.mem_cons_self)
          · rcases f6 i hi with e | e | e
            · exact hF4 i e
            · exact none_old K4 (f5 i e)
            · exact none_old K5 e
        have hd' : isDir x = isDir y := by simpa using hd
        refine hcl.ld 0 _ rfl fun q g hg => ?_
        rw [hg]
        refine spec_l11Under (hm.mono k0.le fun _ _ => mono_mk k0.le) (hv.mono k0.le fun _ _ h => h) ?_
        rw [pIf_b]
        refine ⟨fun hu => ?_, fun hu => ?_⟩
        · have e1 : lookE (n + 1) ms ps (some x) (some y) = walkE (n + 1) ps (some x) (some y) := by simp only [lookE]; rw [if_pos hd', if_pos hu]
          have e2 : lookN (n + 1) ms ps (some x) (some y) = unT (n + 1) (some x) (some y) := by simp only [lookN]; rw [if_pos hd', if_pos hu]
          rw [e1] at hEl hR
          rw [e2] at hNl hR
          refine hcl.ld 2 _ rfl fun q g hg => ?_
          rw [hg]
          refine spec_Union (n + 1) (mono_rt _ _ _ _ _ k0.le h0) (mono_rt _ _ _ _ _ k0.le h0') hx hy fun s1 k1 => ⟨k1.stay, ?_⟩
          have hun := unS_eq (n + 1) (some x) (some y) (by simp) hfa hfb
          rw [hun, pBin_add (by omega), show ((k : Nat) : Int) + ((unT (n + 1) (some x) (some y) : Nat) : Int) = ((k + unT (n + 1) (some x) (some y) : Nat) : Int) by omega]
          refine (hcl.keep k1).st2 fun s2 k2 c2 => ?_
          have K2 : Keeps σ0 s2 := k2.old (k0.trans k1) hF
          refine c2.ld 1 _ rfl fun q g hg => ?_
          rw [hg]
          refine spec_walk (n + 1) (hv.mono K2.le fun _ _ h => h) (mono_rt _ _ _ _ _ K2.le h0) (mono_rt _ _ _ _ _ K2.le h0') hx.1 hy.1 hx.2.1 hy.2.1 hps fun v3 G3 s3 k3 o3 f3 => ⟨k3.stay, ?_⟩
          exact fin (K2.trans k3) hF (c2.keep k3) o3 (fresh (s' := s3) K2 c2.dom f3) hEl fun ov' G' s' a1 a2 a3 => hR ov' G' s' a1 a2 a3
        obtain ⟨eE, eN⟩ := lookE_names (ms := ms) (ps := ps) hx hy hd' hu
        simp only [Option.getD_some] at eE eN
        rw [eE] at hEl hR
        rw [eN] at hNl hR
        have hLl := names_both hx hy
        have hLm : ∀ z, z ∈ namesU (namesOf x ++ namesOf y) → z ∈ namesOf x ∨ z ∈ namesOf y := fun z hz => by rw [namesU_mem, List.mem_append] at hz; exact hz
        clear eE eN
        -- the names one by one
        have LOOP : ∀ (s : Vw) (ov1 : Value) (G1 : List Nat) (pe : List En), pe = (if markedB ms ps = true then partE ps x y else []) → Keeps σ0 s → (∀ i, i ∈ b :: G1 → σ0 i = none) → CL w0 s b G1 lv ov1 (xs ++ pe) (k + 1) →
            VSL w0 (ptrL b) v (.bool (isDir x)) (.int .i64 (modeOf x)) (.string (dataOf x)) u w (.bool (isDir y)) (.int .i64 (modeOf y)) (.string (dataOf y)) u' w' s R := by
          intro s ov1 G1 pe hpe ks1 hF1 c1
          rw [← hpe] at hR hEl
          unfold VSL
          refine spec_l12Names (mono_rt _ _ _ _ _ ks1.le h0) (mono_rt _ _ _ _ _ ks1.le h0') (fine_asc hx) (fine_asc hy) (by omega) fun nv F s2 k2 on fn => ?_
          simp only [Option.getD_some] at on
          have c2 := c1.keep k2
          have hFd : ∀ i, i ∈ F → i ∉ b :: G1 := fun i hi h => c1.dom i h (fn i hi)
          have fn0 : ∀ i, i ∈ F → σ0 i = none := fun i hi => none_old ks1 (fn i hi)
          clear hLl
          generalize namesU (namesOf x ++ namesOf y) = L at *
          generalize hW : lookW n ms ps x y = W at hR hEl
          generalize hV : lookV n ms ps x y = V at hR hNl
          have hll := (on.rel (ok_str w0)).le
          refine loop_rule (m := L.length) (fun cc l st => ∃ (j : Nat) (G2 : List Nat) (ov2 : Value), cc + j = L.length ∧ Keeps σ0 st ∧ (∀ i, i ∈ b :: G2 → σ0 i = none) ∧ CL w0 st b G2 lv ov2 (xs ++ (pe ++ ((L.take j).map W).flatten)) (k + (1 + sumBy V (L.take j))) ∧
              OStrs w0 st F nv L ∧ (∀ i, i ∈ F → i ∉ b :: G2) ∧ l = [ptrL b, v, nv, .int .i64 (j : Nat), .bool (isDir x), .int .i64 (modeOf x), .string (dataOf x), u, w, .bool (isDir y), .int .i64 (modeOf y), .string (dataOf y), u', w']) ?_
            ⟨0, G1, ov1, by omega, ks1.trans k2, hF1, by simpa [sumBy] using c2, on, hFd, rfl⟩
          rintro cc l st L' ⟨j, G2, ov2, hcj, ks, hF2, c3, hon, hFG, rfl⟩ hL'
          simp only [vget, List.getD_cons_zero, List.getD_cons_succ]
          have onr := hon.rel (ok_str w0)
          rw [onr.len, pBin_lt, pIf_d]
          refine ⟨fun hj => ?_, fun hj => ?_⟩
          · have hnm := List.getElem?_eq_getElem (show j < L.length by omega)
            generalize L[j]'(by omega) = nm at hnm
            have hmem := hLm nm (List.mem_of_getElem? hnm)
            have hn0 : n ≠ 0 := by
              rcases hmem with hm | hm
              · exact kid_level hx hm
              · exact kid_level hy hm
            have hsz : nm.size ≤ 5 := by
              rcases hmem with h | h
              · exact name_short hx.1 h
              · exact name_short hy.1 h
            refine RSl.at1 onr hnm fun g hg hgs => ?_
            rw [hg]
            refine spec_path (hv.mono ks.le fun _ _ h => h) (by omega) (by omega) fun pv PF s4 k4 op fp => ?_
            have K4 := ks.trans k4
            have c4 := c3.keep k4
            have onr4 := onr.mono k4.le fun _ _ h => h
            have hst := sumBy_take (f := V) hnm
            have hsl := sumBy_le (f := V) (xs := L) (j + 1)
            have hft := flat_take (f := W) hnm
            refine spec_leads c4 (hm.mono K4.le fun _ _ => mono_mk K4.le) (op.rel (ok_str w0)) ?_
            rw [pIf_b]
            refine ⟨fun hld => ?_, fun hld => ?_⟩
            · obtain ⟨n', rfl⟩ := Nat.exists_eq_succ_of_ne_zero hn0
              refine RSl.at1 onr4 hnm fun g2 hg2 _ => ?_
              rw [hg2]
              have hFs : ∀ i, i ∈ b :: G2 → s4 i ≠ none := c4.dom
              have kd4 : Keeps σ0 (delL s4 (b :: G2)) := keeps_delL K4 hF2
              refine spec_l12KidB hFs (mono_rt _ _ _ _ _ kd4.le h0) hx hgs fun e1 s5 k5 r1 => ?_
              have r10 := r1
              obtain ⟨u2, w2, rfl, _, _, _, _, hp2⟩ := r1.cells
              rw [pExtract_s rfl, pExtract_s rfl, hp2]
              refine RSl.at1 (onr4.mono k5.le fun _ _ h => h) hnm fun g3 hg3 _ => ?_
              rw [hg3]
              have c5 := c4.keep k5
              have kd5 : Keeps σ0 (delL s5 (b :: G2)) := keeps_delL (K4.trans k5) hF2
              refine spec_l12KidB c5.dom (mono_rt _ _ _ _ _ kd5.le h0') hy hgs fun e2 s6 k6 r2 => ?_
              have r20 := r2
              obtain ⟨u3, w3, rfl, _, _, _, _, hp3⟩ := r2.cells
              rw [pExtract_s rfl, pExtract_s rfl, hp3]
              simp only [cellOf_agg, List.getD_cons_zero, List.getD_cons_succ]
              have c6 := c5.keep k6
              have K6 := (K4.trans k5).trans k6
              have kd6 : Keeps σ0 (delL s6 (b :: G2)) := keeps_delL K6 hF2
              have kd56 : Keeps (delL s5 (b :: G2)) (delL s6 (b :: G2)) := keeps_delL (delL_keeps.trans k6) fun i hi => delL_none hi
              have f1 := fine_getD (kid_fineT hx nm)
              have f2 := fine_getD (kid_fineT hy nm)
              have hne' : ¬ (kidT x nm = none ∧ kidT y nm = none) := fun h => by
                rcases hmem with hm | hm
                · exact kid_there hx.1 hm h.1
                · exact kid_there hy.1 hm h.2
              have hPF : ∀ i, i ∈ PF → i ∉ b :: G2 := fun i hi h => c3.dom i h (fp i hi)
              have op6 := (op.frame (ok_str w0) ((k5.trans k6).but_at fun i hi => (op.dom (ok_str w0) i hi).2)).frame (σ' := delL s6 (b :: G2)) (ok_str w0) fun i hi => delL_out (hPF i hi)
              have hW1 : W nm = lookE (n' + 1) ms (ps ++ [nm]) (kidT x nm) (kidT y nm) := by rw [← hW, lookW, if_pos hld]
              have hV1 : V nm = lookN (n' + 1) ms (ps ++ [nm]) (kidT x nm) (kidT y nm) := by rw [← hV, lookV, if_pos hld]
              have hlE : (xs ++ (pe ++ ((L.take j).map W).flatten)).length + (W nm).length ≤ 1000000 := by
                have e2 : ((L.map W).flatten).length = (((L.take (j + 1)).map W).flatten).length + (((L.drop (j + 1)).map W).flatten).length := by
                  rw [← List.length_append, ← List.flatten_append, ← List.map_append, List.take_append_drop]
                rw [hft, List.length_append] at e2
                rw [List.length_append] at hEl
                rw [List.length_append, List.length_append]
                omega
              refine ih (σ0 := delL s6 (b :: G2)) (a := kidT x nm) (c := kidT y nm) (op6.rel (ok_str w0)) (hm.mono kd6.le fun _ _ => mono_mk kd6.le) (RT_short _ _ _ _ _ (mono_rt _ _ _ _ _ kd56.le r10) f1.1) (RT_short _ _ _ _ _ r20 f2.1) (kid_fineT hx nm) (kid_fineT hy nm) hne'
                (by rw [List.length_append, sumS_snoc]; simp only [List.length_cons, List.length_nil]; omega) delL_keeps (fun i hi => delL_none hi) c6 (by rw [← hW1]; exact hlE) (by rw [← hV1]; omega) fun ov7 G7 s7 k7 hF7 c7 => ?_
              rw [← hW1, ← hV1] at c7
              rw [pBin_add (by omega)]
              have hon6 := hon.frame (ok_str w0) (((k4.trans k5).trans k6).but_at fun i hi => (hon.dom (ok_str w0) i hi).2)
              have hon7 := hon6.frame (σ' := s7) (ok_str w0) fun i hi => by
                cases hs : s6 i with
                | none => exact absurd hs (hon6.dom (ok_str w0) i hi).2
                | some r => exact k7 i r (by rw [delL_out (hFG i hi)]; exact hs)
              refine hL' _ _ (cc - 1) (by omega) ⟨j + 1, G7, ov7, by omega, kd6.trans k7, fun i hi => none_old kd6 (hF7 i hi), ?_, hon7, fun i hi hi' => ?_, by simp⟩
              · rw [hft, hst, ← List.append_assoc pe, ← List.append_assoc xs]
                rw [show k + (1 + (sumBy V (L.take j) + V nm)) = k + (1 + sumBy V (L.take j)) + V nm by omega]
                exact c7
              · have h1 := hF7 i hi'
                rw [delL_out (hFG i hi)] at h1
                exact (hon6.dom (ok_str w0) i hi).2 h1
            · have hW1 : W nm = [] := by rw [← hW, lookW, if_neg (by rw [hld]; simp)]
              have hV1 : V nm = 0 := by rw [← hV, lookV, if_neg (by rw [hld]; simp)]
              rw [pBin_add (by omega)]
              refine hL' _ _ (cc - 1) (by omega) ⟨j + 1, G2, ov2, by omega, K4, hF2, ?_, hon.frame (ok_str w0) (k4.but_at fun i hi => (hon.dom (ok_str w0) i hi).2), hFG, by simp⟩
              rw [hft, hW1, hst, hV1, List.append_nil, Nat.add_zero]; exact c4
          · have e : j = L.length := by omega
            subst e
            rw [List.take_length] at c3
            exact hR ov2 G2 st ks hF2 c3
        refine hcl.ld 2 _ rfl fun q g hg => ?_
        rw [hg, pBin_add (by omega), show ((k : Nat) : Int) + 1 = ((k + 1 : Nat) : Int) by omega]
        refine hcl.st2 fun s2 k2 c2 => ?_
        have K2 : Keeps σ0 s2 := k2.old k0 hF
        refine c2.ld 0 _ rfl fun q g hg => ?_
        rw [hg]
        refine spec_l11Marked (hm.mono K2.le fun _ _ => mono_mk K2.le) (hv.mono K2.le fun _ _ h => h) ?_
        rw [pIf_b]
        refine ⟨fun hmk => ?_, fun hmk => ?_⟩
        · refine c2.ld 1 _ rfl fun q g hg => ?_
          rw [hg]
          refine spec_part (hv.mono K2.le fun _ _ h => h) (by omega) (mono_rt _ _ _ _ _ K2.le h0) (mono_rt _ _ _ _ _ K2.le h0') fun v3 G3 s3 k3 o3 f3 => ⟨k3.stay, ?_⟩
          refine fin (K2.trans k3) hF (c2.keep k3) o3 (fresh (s' := s3) K2 c2.dom f3) (by rw [if_pos hmk, List.length_append] at hEl; simp only [Option.getD_some]; omega) fun ov' G' s' a1 a2 a3 => ?_
          exact LOOP s' ov' G' _ (by rw [if_pos hmk]; rfl) a1 a2 a3
        · exact LOOP s2 _ G [] (by rw [if_neg (by rw [hmk]; simp)]) K2 hF (by rw [List.append_nil]; exact c2)
end
end Go.Proofs.YtkbhjejalkbogaaGreat

/- 'TrailDiff' by either hand, and its law. -/
set_option linter.unusedVariables false
set_option linter.unusedSimpArgs false
set_option maxRecDepth 20000
namespace Go.Proofs.YtkbhjejalkbogaaGreat
open Go Go.Av

noncomputable def diffM (n m : Nat) (x y : Tr) (ms : List Mk) : List En × Nat := if ((treeOk n x = true ∧ treeOk m y = true) ∧ trailOk ms = true) ∧ 0 < ms.length then (lookE 5 ms [] (some x) (some y), lookN 5 ms [] (some x) (some y)) else ([], 0)
theorem diffM_no {n m : Nat} {x y : Tr} {ms : List Mk} (h : ¬ (((treeOk n x = true ∧ treeOk m y = true) ∧ trailOk ms = true) ∧ 0 < ms.length)) : diffM n m x y ms = ([], 0) := by rw [diffM, if_neg h]
theorem diffM_yes {n m : Nat} {x y : Tr} {ms : List Mk} (h : ((treeOk n x = true ∧ treeOk m y = true) ∧ trailOk ms = true) ∧ 0 < ms.length) : diffM n m x y ms = (lookE 5 ms [] (some x) (some y), lookN 5 ms [] (some x) (some y)) := by rw [diffM, if_pos h]
section
variable {w0 : World} {σ : Vw}

abbrev OutDM (w0 : World) (σ : Vw) (d : List En × Nat) (R : Value → Vw → Prop) : Prop := ∀ v F σ', Keeps σ σ' → OSl w0 5 (OEn w0) σ' F v d.1 → (∀ i, i ∈ F → σ i = none) → R (.tuple ⟨[v, .int .i64 (d.2 : Nat)]⟩) σ'
theorem outDM_no {d : List En × Nat} {R : Value → Vw → Prop} {s : Vw} (hR : OutDM w0 σ d R) (hd : d = ([], 0)) (k : Keeps σ s) : pNew w0 t_impl_Entry [] s (fun n3 s4 => R (.tuple (⟨[.slice (some (Addr.mk n3 0 none)) 0 0, .int .i64 0]⟩)) s4) := fun b hb1 hb2 => by
  subst hd
  refine hR _ [b] _ (k.trans (Keeps.put hb2)) ?_ fun i hi => by rw [List.mem_singleton.1 hi]; exact none_old k hb2
  exact (OAcc.new (O := OEn w0) hb1).osl

theorem spec_TrailDiff {n m : Nat} {es es' : List Value} {v : Value} {x y : Tr} {ms : List Mk} (h : RT n (Av.get w0 σ) es x) (h' : RT m (Av.get w0 σ) es' y) (hv : RSl 2 RMk (Av.get w0 σ) v ms) (hb : cntT n x ≤ 1000000000000) (hb' : cntT m y ≤ 1000000000000) {R : Value → Vw → Prop}
    (hR : OutDM w0 σ (diffM n m x y ms) R) : AC Tryz.prog w0 n_spec_TrailDiff [.agg ⟨es⟩, .agg ⟨es'⟩, v] σ R := by
  have h0 := h
  have h0' := h'
  obtain ⟨u, w, rfl, _, _, _, _, hp⟩ := h.cells
  obtain ⟨u', w', rfl, _, _, _, _, hp'⟩ := h'.cells
  refine ac_spec_TrailDiff ?_
  unfold vc_spec_TrailDiff
  rw [hp, hp']
  simp only [cellOf_agg, List.getD_cons_zero, List.getD_cons_succ]
  refine spec_TreeOk h0 hb (pNotIf.2 ⟨fun hno => outDM_no hR (diffM_no (by rw [hno]; simp)) (Keeps.refl _), fun hok => ?_⟩)
  refine spec_TreeOk h0' hb' (pNotIf.2 ⟨fun hno => outDM_no hR (diffM_no (by rw [hno]; simp)) (Keeps.refl _), fun hok' => ?_⟩)
  refine spec_TrailOk hv (pNotIf.2 ⟨fun hno => outDM_no hR (diffM_no (by rw [hno]; simp)) (Keeps.refl _), fun hmk => ?_⟩)
  obtain ⟨d1, x1, c1⟩ := ok_fineT hok
  obtain ⟨d2, x2, c2⟩ := ok_fineT hok'
  intro a ha1 ha2
  have k1 : Keeps σ (σ.put a ⟨t_impl_Entry, [], 0, (0, 0)⟩) := Keeps.put ha2
  have o1 : OAcc w0 t_impl_Entry 5 (OEn w0) (σ.put a ⟨t_impl_Entry, [], 0, (0, 0)⟩) [a] (.slice (some ⟨a, 0, none⟩) 0 0) [] := OAcc.new ha1
  rw [pVal1 hv.one, pVal1 rfl, pVal_3 hv.one rfl rfl]
  generalize hs1 : σ.put a _ = s1 at k1 o1
  intro b hb1 hb2
  have k2 := Keeps.put (r := ⟨t_spec_l12Look, [v, .slice (some ⟨a, 0, none⟩) 0 0, .int .i64 0], 3, (0, 0)⟩) hb2
  have hab : b ≠ a := fun e => by rw [e, ← hs1, put_at] at hb2; cases hb2
  have c0 : CL w0 (s1.put b ⟨t_spec_l12Look, [v, .slice (some ⟨a, 0, none⟩) 0 0, .int .i64 0], 3, (0, 0)⟩) b [a] v (.slice (some ⟨a, 0, none⟩) 0 0) [] 0 :=
    ⟨hb1, fun h => hab (List.mem_singleton.1 h), hv.one, ⟨_, put_at⟩, o1.frame (ok_en w0) (k2.but_at fun i hi => (o1.dom (ok_en w0) i hi).2)⟩
  have K2 := k1.trans k2
  have hF0 : ∀ i, i ∈ [b, a] → σ i = none := fun i hi => by
    simp at hi
    rcases hi with e | e
    · rw [e]; exact none_old k1 hb2
    · rw [e]; exact ha2
  show pLen v _
  generalize Vw.put _ b _ = s2 at k2 c0 K2
  rw [hv.len, pBin_gt, pIf_d]
  refine ⟨fun hpos => ?_, fun hz => ?_⟩
  · rw [diffM_yes ⟨⟨⟨hok, hok'⟩, hmk⟩, by omega⟩] at hR
    intro p hp1 hp2
    have k3 := Keeps.put (r := ⟨t_string, [], 0, (0, 0)⟩) hp2
    have c3 := c0.keep k3
    have hpp : p ∉ [b, a] := fun hi => by
      have := c0.dom p hi
      exact this hp2
    have K3 := K2.trans k3
    generalize hs3 : Vw.put _ p _ = s3 at k3 c3 K3
    have kd : Keeps σ (delL s3 [b, a]) := keeps_delL K3 hF0
    have hpv : RSl 1 RS (Av.get w0 (delL s3 [b, a])) (.slice (some ⟨p, 0, none⟩) 0 0) [] := ⟨_, 0, rfl, by simp, fun j x h => by simp at h⟩
    have le := lookE_len 5 ms [] (some x) (some y)
    have ln := lookN_le 5 ms [] (some x) (some y)
    simp only [cntO] at le ln
    refine spec_look 5 (σ0 := delL s3 [b, a]) (G := [a]) (a := some x) (c := some y) hpv (hv.mono kd.le fun _ _ => mono_mk kd.le) (mono_rt 5 _ _ _ _ kd.le (d1 _ _ h0)) (mono_rt 5 _ _ _ _ kd.le (d2 _ _ h0')) (fun z hz => by cases hz; exact x1) (fun z hz => by cases hz; exact x2) (fun h => by cases h.1) (by simp [sumS]) delL_keeps (fun i hi => delL_none hi) c3 (by simp; omega) (by omega) fun ov G s4 k4 hF4 c4 => ?_
    refine c4.ld 1 _ rfl fun q g hg => ?_
    refine c4.ld 2 _ rfl fun q2 g2 hg2 => ?_
    rw [hg, hg2, Nat.zero_add]
    obtain ⟨_, _, _, _, o4⟩ := c4
    rw [List.nil_append] at o4
    exact hR ov G s4 (kd.trans k4) o4.osl fun i hi => none_old kd (hF4 i (List.mem_cons_of_mem _ hi))
  · rw [diffM_no (by rintro ⟨_, h⟩; omega)] at hR
    refine c0.ld 1 _ rfl fun q g hg => ?_
    refine c0.ld 2 _ rfl fun q2 g2 hg2 => ?_
    rw [hg, hg2]
    obtain ⟨_, _, _, _, o4⟩ := c0
    exact hR _ [a] s2 K2 o4.osl fun i hi => hF0 i (List.mem_cons_of_mem _ hi)

theorem impl_TrailDiff {n m : Nat} {es es' : List Value} {v : Value} {x y : Tr} {ms : List Mk} (h : RT n (Av.get w0 σ) es x) (h' : RT m (Av.get w0 σ) es' y) (hv : RSl 2 RMk (Av.get w0 σ) v ms) (hb : cntT n x ≤ 1000000000000) (hb' : cntT m y ≤ 1000000000000) {R : Value → Vw → Prop}
    (hR : OutDM w0 σ (diffM n m x y ms) R) : AC Tryz.prog w0 n_impl_TrailDiff [.agg ⟨es⟩, .agg ⟨es'⟩, v] σ R := by
  have h0 := h
  have h0' := h'
  obtain ⟨e0, e1, e2, e3, e4, rfl, _, hpv⟩ := RT.five h
  obtain ⟨e0', e1', e2', e3', e4', rfl, _, hpv'⟩ := RT.five h'
  refine ac_impl_TrailDiff ?_
  unfold vc_impl_TrailDiff
  rw [hpv]
  simp only [cellOf_agg, List.getD_cons_zero, List.getD_cons_succ]
  intro a ha1 ha2
  have k1 : Keeps σ (σ.put a ⟨t_impl_Tree, [e0, e1, e2, e3, e4], 5, (0, 0)⟩) := Keeps.put ha2
  have p1 := PT.new (ety := t_impl_Tree) (c := 5) h0 ha1 ha2
  rw [hpv']
  intro b hb1 hb2
  have k2 := Keeps.put (r := ⟨t_impl_Tree, [e0', e1', e2', e3', e4'], 5, (0, 0)⟩) hb2
  have p2 := PT.new (ety := t_impl_Tree) (c := 5) (mono_rt _ _ _ _ _ k1.le h0') hb1 hb2
  have p1' := p1.mono k2.le
  have K2 := k1.trans k2
  generalize hs : Vw.put _ b _ = s at k2 p2 p1' K2
  clear hs
  refine PT.load p1' fun g hg => ?_
  refine impl_TreeOk hg hb (pNotIf.2 ⟨fun hno => outDM_no hR (diffM_no (by rw [hno]; simp)) K2, fun hok => ?_⟩)
  refine PT.load p2 fun g' hg' => ?_
  refine impl_TreeOk hg' hb' (pNotIf.2 ⟨fun hno => outDM_no hR (diffM_no (by rw [hno]; simp)) K2, fun hok' => ?_⟩)
  have hvs := hv.mono K2.le fun _ _ => mono_mk K2.le
  refine impl_TrailOk hvs (pNotIf.2 ⟨fun hno => outDM_no hR (diffM_no (by rw [hno]; simp)) K2, fun hmk => ?_⟩)
  obtain ⟨d1, x1, c1⟩ := ok_fineT hok
  obtain ⟨d2, x2, c2⟩ := ok_fineT hok'
  rw [hvs.len, pBin_eq, pIf_d]
  refine ⟨fun hz => outDM_no hR (diffM_no (by rintro ⟨_, h⟩; omega)) K2, fun hz => ?_⟩
  rw [diffM_yes ⟨⟨⟨hok, hok'⟩, hmk⟩, by omega⟩] at hR
  refine impl_look 5 (ps := []) (by omega) (nil_in (G := []) s (KeepsBut.refl _ _)) hvs (a := some x) (b := some y) (PT_of d1 p1') (PT_of d2 p2) (fun z hz => by cases hz; exact x1) (fun z hz => by cases hz; exact x2) (fun h => by cases h.1) (by simp [sumS]) fun v1 G s' k o f => ?_
  rw [pExtract_s rfl, pExtract_s rfl]
  exact hR v1 G s' (K2.trans k) o.osl fun i hi => none_old K2 (f i hi)

end
end Go.Proofs.YtkbhjejalkbogaaGreat

/- What is marked stays marked; a trail that covers leads to all that differs: pure. -/
set_option linter.unusedVariables false
set_option linter.unusedSimpArgs false
set_option maxRecDepth 20000
namespace Go.Proofs.YtkbhjejalkbogaaGreat
open Go Go.Av

/-! ### Marks are not forgotten -/
theorem under_iff {l : List Mk} {p : List ByteArray} : underB l p = true ↔ ∃ x, x ∈ l ∧ x.2 = true ∧ x.1 <+: p := by
  unfold underB
  rw [List.any_eq_true]
  refine ⟨fun ⟨x, hx, h⟩ => ?_, fun ⟨x, hx, h1, h2⟩ => ⟨x, hx, by rw [h1, within_iff.2 h2]; rfl⟩⟩
  rw [Bool.and_eq_true] at h
  exact ⟨x, hx, h.1, within_iff.1 h.2⟩
theorem marked_iff {l : List Mk} {p : List ByteArray} : markedB l p = true ↔ (∃ x, x ∈ l ∧ x.2 = true ∧ x.1 <+: p) ∨ ∃ x, x ∈ l ∧ x.1 = p := by
  unfold markedB
  rw [Bool.or_eq_true, under_iff, List.any_eq_true]
  refine or_congr Iff.rfl ⟨fun ⟨x, hx, h⟩ => ⟨x, hx, of_decide_eq_true h⟩, fun ⟨x, hx, h⟩ => ⟨x, hx, decide_eq_true h⟩⟩
theorem leads_iff {l : List Mk} {p : List ByteArray} : leadsB l p = true ↔ ∃ x, x ∈ l ∧ p <+: x.1 := by
  unfold leadsB
  rw [List.any_eq_true]
  exact ⟨fun ⟨x, hx, h⟩ => ⟨x, hx, within_iff.1 h⟩, fun ⟨x, hx, h⟩ => ⟨x, hx, within_iff.2 h⟩⟩
theorem put_or {l : List Mk} {m x : Mk} (h : x ∈ l) : x ∈ putM l m ∨ (m ∈ putM l m ∧ m.2 = true ∧ m.1 <+: x.1) := by
  unfold putM
  split
  · exact .inl h
  · by_cases hk : keepM m x = true
    · exact .inl (ins_mem.2 (.inr (List.mem_filter.2 ⟨h, hk⟩)))
    · have : m.2 = true ∧ within x.1 m.1 = true := by
        unfold keepM at hk
        simpa using hk
      exact .inr ⟨ins_mem.2 (.inl rfl), this.1, within_iff.1 this.2⟩
theorem put_under {l : List Mk} {m : Mk} {p : List ByteArray} (h : underB l p = true) : underB (putM l m) p = true := by
  obtain ⟨x, hx, h1, h2⟩ := under_iff.1 h
  rcases put_or (m := m) hx with e | ⟨e, e1, e2⟩
  · exact under_iff.2 ⟨x, e, h1, h2⟩
  · exact under_iff.2 ⟨m, e, e1, e2.trans h2⟩
theorem put_marked {l : List Mk} {m : Mk} {p : List ByteArray} (h : markedB l p = true) : markedB (putM l m) p = true := by
  rcases marked_iff.1 h with hu | ⟨x, hx, rfl⟩
  · exact marked_iff.2 (.inl (under_iff.1 (put_under (under_iff.2 hu))))
  · rcases put_or (m := m) hx with e | ⟨e, e1, e2⟩
    · exact marked_iff.2 (.inr ⟨x, e, rfl⟩)
    · exact marked_iff.2 (.inl ⟨m, e, e1, e2⟩)
theorem Lp.marked {l r : List Mk} {p : List ByteArray} (h : Lp l r) (hu : markedB l p = true) : markedB r p = true := by
  induction h with
  | stop h => exact hu
  | step h h' ih => exact ih (put_marked hu)
theorem AddR.marked {ms r : List Mk} {x : Mk} (h : AddR ms x r) (hok : trailOk ms = true) {p : List ByteArray} (hp : markedB ms p = true) : markedB r p = true := by
  rcases h with ⟨h1, _⟩ | ⟨_, _, rfl⟩ | ⟨_, _, _, h4⟩
  · rw [hok] at h1; cases h1
  · exact hp
  · exact h4.marked (put_marked hp)
theorem Lp.len {l r : List Mk} (h : Lp l r) : r.length ≤ 6 := by
  induction h with
  | stop h => exact h
  | step _ _ ih => exact ih
/-- The other way round: when a trail is sound. -/
theorem trail_of {l : List Mk} (h : TrP l) (hl : l.length ≤ 6) (hm : ∀ x, x ∈ l → markOkB x = true) : trailOk l = true := by
  have hg : allGood l := fun j x hj => by
    unfold goodAt
    rw [hm x (List.mem_of_getElem? hj), Bool.true_and, Bool.and_eq_true]
    obtain ⟨hjl, hje⟩ := List.getElem?_eq_some_iff.1 hj
    refine ⟨?_, ?_⟩
    · cases j with
      | zero => rfl
      | succ i =>
        unfold afterB
        have hi := List.getElem?_eq_getElem (show i < l.length by omega)
        show (match l[i]? with | some y => lexLt y.1 x.1 | none => true) = true
        rw [hi]
        simp only
        have := List.pairwise_iff_getElem.1 h.1 i (i + 1) (by omega) hjl (by omega)
        rw [← hje]; exact this
    · cases hu : underB (l.take j) x.1 with
      | false => rfl
      | true =>
        exfalso
        obtain ⟨y, hy, h1, h2⟩ := under_iff.1 hu
        obtain ⟨i, hi⟩ := List.getElem?_of_mem hy
        rw [List.getElem?_take] at hi
        split at hi
        · rename_i hij
          have hyl := List.mem_of_getElem? hi
          have e : y = x := h.2 y hyl x (List.mem_of_getElem? hj) h1 (within_iff.2 h2)
          obtain ⟨hil, hie⟩ := List.getElem?_eq_some_iff.1 hi
          have hlt := List.pairwise_iff_getElem.1 h.1 i j hil hjl hij
          rw [hie, hje, e, lexLt_irrefl] at hlt
          cases hlt
        · cases hi
  rw [trail_good hg]
  exact decide_eq_true (by omega)
theorem names_take {xs : List ByteArray} {j : Nat} (h : allNames xs = true) : allNames (xs.take j) = true := by
  rw [allNames_iff] at h ⊢
  intro i x hx
  rw [List.getElem?_take] at hx
  split at hx
  · exact h i x hx
  · cases hx
theorem up_ok {x : Mk} (h : markOkB x = true) : markOkB (upM x) = true := by
  unfold upM markOkB at *
  simp only at h ⊢
  split
  · rfl
  · rename_i hne
    by_cases h0 : x.1 = []
    · rw [h0] at hne; simp at hne
    · rw [if_neg h0] at h
      simp only [Bool.and_eq_true, inB, decide_eq_true_eq] at h ⊢
      have hl : 0 < (x.1.take (x.1.length - 1)).length := List.length_pos_iff.2 hne
      refine ⟨names_take h.1, by omega, ?_⟩
      have := List.length_take_le (x.1.length - 1) x.1
      have := h.2.2
      rw [List.length_take]; omega
theorem best_mem {l : List Mk} (h : l ≠ []) : bestM l ∈ l := List.mem_of_getElem? (best_at h)
theorem Lp.ok {l r : List Mk} (h : Lp l r) (ht : TrP l) (hm : ∀ x, x ∈ l → markOkB x = true) : TrP r ∧ ∀ x, x ∈ r → markOkB x = true := by
  induction h with
  | stop h => exact ⟨ht, hm⟩
  | @step l r h h' ih =>
    refine ih ht.put fun x hx => ?_
    rcases put_mem hx with e | e
    · rw [e]
      exact up_ok (hm _ (best_mem fun e => by rw [e] at h; simp at h))
    · exact hm x e
theorem AddR.ok {ms r : List Mk} {x : Mk} (h : AddR ms x r) (hok : trailOk ms = true) : trailOk r = true := by
  obtain ⟨t1, t2, t3⟩ := trail_TrP hok
  rcases h with ⟨h1, _⟩ | ⟨_, _, rfl⟩ | ⟨_, h2, _, h4⟩
  · rw [hok] at h1; cases h1
  · exact hok
  · obtain ⟨q1, q2⟩ := h4.ok t1.put fun y hy => by
      rcases put_mem hy with e | e
      · rw [e]; exact h2
      · exact t3 y e
    exact trail_of q1 h4.len q2
/-! ### A trail that covers leads to all that differs -/
theorem prefix_snoc {p q : List ByteArray} {nm : ByteArray} (h : q <+: p ++ [nm]) : q <+: p ∨ q = p ++ [nm] := by
  rcases List.prefix_concat_iff.1 h with e | e
  · exact .inr e
  · exact .inl e
theorem not_under_kid {ms : List Mk} {ps : List ByteArray} {nm : ByteArray} (hu : underB ms ps = false) (hl : leadsB ms (ps ++ [nm]) = false) : underB ms (ps ++ [nm]) = false := by
  cases h : underB ms (ps ++ [nm]) with
  | false => rfl
  | true =>
    obtain ⟨x, hx, h1, h2⟩ := under_iff.1 h
    rcases prefix_snoc h2 with e | e
    · rw [under_iff.2 ⟨x, hx, h1, e⟩] at hu; cases hu
    · rw [leads_iff.2 ⟨x, hx, by rw [e]; exact List.prefix_refl _⟩] at hl; cases hl
theorem part_same {ps : List ByteArray} {x y : Tr} (h : diffB (some x) (some y) = false) : isDir x = isDir y ∧ partE ps x y = [] := by
  unfold diffB at h
  simp only [Bool.not_eq_false', Bool.and_eq_true, decide_eq_true_eq] at h
  refine ⟨h.1, ?_⟩
  unfold partE
  rw [if_pos h.2.1, if_pos h.2.2]; rfl
theorem cov_kid {n : Nat} {ms : List Mk} {ps : List ByteArray} {x y : Tr} (hx : fineT (n + 1) x) (hy : fineT (n + 1) y) (h : covP (n + 1) ms ps (some x) (some y) = true) : (diffB (some x) (some y) = true → markedB ms ps = true) ∧ ∀ nm, nm ∈ namesU (namesOf x ++ namesOf y) → covP n ms (ps ++ [nm]) (kidT x nm) (kidT y nm) = true := by
  rw [covP_names (a := some x) (b := some y) hx hy, Bool.and_eq_true] at h
  refine ⟨fun hd => ?_, fun nm hnm => List.all_eq_true.1 h.2 nm hnm⟩
  have := h.1
  rw [hd] at this
  simpa using this
/-- Where no mark is, and none above, nothing differs. -/
theorem quiet : ∀ (n : Nat) (ms : List Mk) (ps : List ByteArray) (a b : Option Tr), fineO n a → fineO n b → leadsB ms ps = false → underB ms ps = false → covP n ms ps a b = true → ¬ (a = none ∧ b = none) → ∃ x y, a = some x ∧ b = some y ∧ walkE n ps a b = []
  | 0, _, _, none, none, _, _, _, _, _, h => absurd ⟨rfl, rfl⟩ h
  | 0, _, _, some x, _, h, _, _, _, _, _ => ((h x rfl).1).elim
  | 0, _, _, none, some x, _, h, _, _, _, _ => ((h x rfl).1).elim
  | n + 1, ms, ps, a, b, ha, hb, hl, hu, hc, hne => by
    have hmk : markedB ms ps = false := by
      cases h : markedB ms ps with
      | false => rfl
      | true =>
        rcases marked_iff.1 h with h | ⟨x, hx, e⟩
        · rw [under_iff.2 h] at hu; cases hu
        · rw [leads_iff.2 ⟨x, hx, by rw [e]; exact List.prefix_refl _⟩] at hl; cases hl
    have hd : diffB a b = false := by
      simp only [covP, Bool.and_eq_true] at hc
      have := hc.1
      rw [hmk] at this
      simpa using this
    cases a with
    | none => cases b <;> cases hd
    | some x =>
      cases b with
      | none => cases hd
      | some y =>
        have hx : fineT (n + 1) x := ha x rfl
        have hy : fineT (n + 1) y := hb y rfl
        obtain ⟨e1, e2⟩ := part_same (ps := ps) hd
        refine ⟨x, y, rfl, rfl, ?_⟩
        simp only [walkE]
        rw [if_pos e1, e2, mrg_kids hx hy, List.map_map, List.nil_append]
        refine List.flatten_eq_nil_iff.2 fun l hl' => ?_
        obtain ⟨nm, hnm, rfl⟩ := List.mem_map.1 hl'
        simp only [Function.comp_apply]
        have hlk : leadsB ms (ps ++ [nm]) = false := by
          cases h : leadsB ms (ps ++ [nm]) with
          | false => rfl
          | true =>
            obtain ⟨z, hz, h1⟩ := leads_iff.1 h
            rw [leads_iff.2 ⟨z, hz, (List.prefix_append ps [nm]).trans h1⟩] at hl; cases hl
        have hmem : nm ∈ namesOf x ∨ nm ∈ namesOf y := by rw [namesU_mem, List.mem_append] at hnm; exact hnm
        obtain ⟨_, _, _, _, h⟩ := quiet n ms (ps ++ [nm]) (kidT x nm) (kidT y nm) (kid_fineT hx nm) (kid_fineT hy nm) hlk (not_under_kid hu hlk) ((cov_kid hx hy hc).2 nm hnm) fun h => by
          rcases hmem with hm | hm
          · exact kid_there hx.1 hm h.1
          · exact kid_there hy.1 hm h.2
        exact h
theorem look_walk : ∀ (n : Nat) (ms : List Mk) (ps : List ByteArray) (a b : Option Tr), fineO n a → fineO n b → covP n ms ps a b = true → lookE n ms ps a b = walkE n ps a b
  | 0, _, _, _, _, _, _, _ => rfl
  | n + 1, _, _, none, none, _, _, _ => rfl
  | n + 1, _, _, none, some y, _, _, _ => rfl
  | n + 1, _, _, some x, none, _, _, _ => rfl
  | n + 1, ms, ps, some x, some y, ha, hb, hc => by
    have hx : fineT (n + 1) x := ha x rfl
    have hy : fineT (n + 1) y := hb y rfl
    by_cases hd : isDir x = isDir y
    · by_cases hu : underB ms ps = true
      · simp only [lookE]; rw [if_pos hd, if_pos hu]
      · have hu' : underB ms ps = false := by simpa using hu
        obtain ⟨c1, c2⟩ := cov_kid hx hy hc
        rw [(lookE_names hx hy hd hu').1]
        simp only [walkE]
        rw [if_pos hd, mrg_kids hx hy, List.map_map]
        congr 1
        · by_cases hm : markedB ms ps = true
          · rw [if_pos hm]
          · rw [if_neg hm]
            cases hdf : diffB (some x) (some y) with
            | true => exact absurd (c1 hdf) hm
            | false => exact (part_same hdf).2.symm
        · congr 1
          refine List.map_congr_left fun nm hnm => ?_
          simp only [Function.comp_apply]
          unfold lookW
          by_cases hl : leadsB ms (ps ++ [nm]) = true
          · rw [if_pos hl]
            exact look_walk n ms _ _ _ (kid_fineT hx nm) (kid_fineT hy nm) (c2 nm hnm)
          · rw [if_neg hl]
            have hl' : leadsB ms (ps ++ [nm]) = false := by simpa using hl
            have hmem : nm ∈ namesOf x ∨ nm ∈ namesOf y := by rw [namesU_mem, List.mem_append] at hnm; exact hnm
            obtain ⟨_, _, _, _, h⟩ := quiet n ms (ps ++ [nm]) (kidT x nm) (kidT y nm) (kid_fineT hx nm) (kid_fineT hy nm) hl' (not_under_kid hu' hl') (c2 nm hnm) fun h => by
              rcases hmem with hm | hm
              · exact kid_there hx.1 hm h.1
              · exact kid_there hy.1 hm h.2
            exact h.symm
    · simp only [lookE, walkE]; rw [if_neg hd, if_neg hd]
/-- More marks cover no less. -/
theorem cov_more : ∀ (n : Nat) (ms ms' : List Mk) (ps : List ByteArray) (a b : Option Tr), (∀ p, markedB ms p = true → markedB ms' p = true) → covP n ms ps a b = true → covP n ms' ps a b = true
  | 0, _, _, _, _, _, _, _ => rfl
  | n + 1, ms, ms', ps, a, b, hm, h => by
    simp only [covP, Bool.and_eq_true] at h ⊢
    refine ⟨?_, List.all_eq_true.2 fun z hz => cov_more n ms ms' _ _ _ hm (List.all_eq_true.1 h.2 z hz)⟩
    rw [Bool.or_eq_true] at *
    rcases h.1 with h | h
    · exact .inl h
    · exact .inr (hm ps h)
theorem covers_facts {n m : Nat} {x y : Tr} {ms : List Mk} (h : coversX n m x y ms = true) : (treeOk n x = true ∧ treeOk m y = true) ∧ trailOk ms = true ∧ covP 5 ms [] (some x) (some y) = true := by
  unfold coversX at h
  simp only [Bool.and_eq_true] at h
  exact h
theorem diffM_walk {n m : Nat} {x y : Tr} {ms : List Mk} (h : coversX n m x y ms = true) : (diffM n m x y ms).1 = diffX n m x y := by
  obtain ⟨h1, h2, h3⟩ := covers_facts h
  obtain ⟨_, fx, _⟩ := ok_fineT h1.1
  obtain ⟨_, fy, _⟩ := ok_fineT h1.2
  rw [diffX, if_pos h1]
  have fx' : fineO 5 (some x) := fun z hz => by cases hz; exact fx
  have fy' : fineO 5 (some y) := fun z hz => by cases hz; exact fy
  by_cases hl : 0 < ms.length
  · rw [diffM_yes ⟨⟨h1, h2⟩, hl⟩]
    exact look_walk 5 ms [] _ _ fx' fy' h3
  · rw [diffM_no fun h => hl h.2]
    have e : ms = [] := List.eq_nil_of_length_eq_zero (by omega)
    subst e
    obtain ⟨_, _, _, _, hw⟩ := quiet 5 [] [] (some x) (some y) fx' fy' rfl rfl h3 (fun h => by cases h.1)
    exact hw.symm
theorem covers_more {n m : Nat} {x y : Tr} {ms r : List Mk} {k : Mk} (h : coversX n m x y ms = true) (hr : AddR ms k r) : coversX n m x y r = true := by
  obtain ⟨h1, h2, h3⟩ := covers_facts h
  unfold coversX
  rw [h1.1, h1.2, hr.ok h2, cov_more 5 ms r [] _ _ (fun p hp => hr.marked h2 hp) h3]
  rfl
end Go.Proofs.YtkbhjejalkbogaaGreat

/- Two trees and a trail that are drawn; a trail and a mark that are drawn; trails compared. -/
set_option linter.unusedVariables false
set_option linter.unusedSimpArgs false
set_option maxRecDepth 20000
namespace Go.Proofs.YtkbhjejalkbogaaGreat
open Go Go.Av Go.RowKit

section
variable {w0 : World} {σ : Vw}

/-- Two drawn trees and a trail, beside the reader. -/
abbrev OutBM (w0 : World) (σ : Vw) (b p : Nat) (R : Value → Vw → Prop) : Prop := ∀ es (x : Tr) es' (y : Tr) v ms s, RD w0 s b p → Keeps (σ.del b) (s.del b) → RT 16 (Av.get w0 (s.del b)) es x → szT 16 x ≤ 50000000 → RT 16 (Av.get w0 (s.del b)) es' y → szT 16 y ≤ 50000000 → RSl 2 RMk (Av.get w0 (s.del b)) v ms → smallM 8 ms → R (.tuple ⟨[.agg ⟨es⟩, .agg ⟨es'⟩, v]⟩) s

theorem mark_row {s : Vw} {n n' : Nat} (hn : w0.heap.size ≤ n') (hr : s n' = some ⟨t_impl_Mark, [.slice (some ⟨n, 0, none⟩) 0 0, .bool true], 2, (0, 0)⟩) : RSl 2 RMk (Av.get w0 s) (.slice (some ⟨n', 0, none⟩) 1 1) [(([] : List ByteArray), true)] := by
  refine RSl.own (xs := [(([] : List ByteArray), true)]) (cs := [[.slice (some ⟨n, 0, none⟩) 0 0, .bool true]]) (tail := []) hn hr rfl (fun c hc => by rw [List.mem_singleton.1 hc]; rfl) rfl (by simp) fun j c x hj hx => ?_
  cases j with
  | zero => cases hj; cases hx; exact ⟨_, rfl, nil_path⟩
  | succ j => cases hj

set_option maxHeartbeats 4000000 in
theorem spec_l13Both {b p : Nat} (h : RD w0 σ b p) (hp : p ≤ 600000) {R : Value → Vw → Prop} (hR : OutBM w0 σ b (p + 3000) R) : AC Tryz.prog w0 n_spec_l13Both [ptr b] σ R := by
  refine ac_spec_l13Both ?_
  unfold vc_spec_l13Both cs_spec_l13Both_2 cs_spec_l13Both_1
  refine spec_l4Tree h (by omega) fun es x s1 hrd1 k1 hx hxs => ?_
  have hx0 := hx
  obtain ⟨f0, f1, f2, f3, f4, rfl, hp5⟩ := hx.shape
  rw [hp5]
  simp only [cellOf_agg, List.getD_cons_zero, List.getD_cons_succ]
  refine spec_pick (n := 24) hrd1 (by omega) (by omega) fun j s2 hj hrd2 hd2 _ => ?_
  have k2 : Keeps (s1.del b) (s2.del b) := by rw [hd2]; exact Keeps.refl _
  have K2 := k1.trans k2
  rw [pBin_eq, pIf_d]
  refine ⟨fun _ => ?_, fun _ => ?_⟩
  · refine spec_l4Spoil 11 hrd2 (by omega) (mono_rt _ _ _ _ _ k2.le hx0) (by omega) fun es5 x5 s6 hrd6 k6 hx5 hx5s => ?_
    have hx50 := hx5
    obtain ⟨a0, a1, a2, a3, a4, rfl, hp6⟩ := hx5.shape
    rw [hp6]
    simp only [cellOf_agg, List.getD_cons_zero, List.getD_cons_succ]
    have K6 := K2.trans k6
    have hq : ∀ n A, pVal true 2 (.agg ⟨[.slice (some (Addr.mk n 0 none)) 0 0, .bool true]⟩) A ↔ A := fun n A => pVal_2 rfl rfl
    have hs : ∀ n A, pVal false 1 (.slice (some (Addr.mk n 0 none)) 0 0) A ↔ A := fun n A => pVal1 rfl
    have hb : ∀ A, pVal false 1 (.bool true) A ↔ A := fun A => pVal1 rfl
    -- the trail made last
    have fin : ∀ {es' : List Value} {y : Tr} {s : Vw} {q n : Nat}, RD w0 s b q → q ≤ p + 3000 → Keeps (s6.del b) (s.del b) → RT 11 (Av.get w0 (s.del b)) es' y → szT 11 y ≤ 40000000 → pNew w0 t_impl_Mark [.slice (some (Addr.mk n 0 none)) 0 0, .bool true] s (fun n11 s12 => R (.tuple ⟨[.agg ⟨[a0, a1, a2, a3, a4]⟩, .agg ⟨es'⟩, .slice (some (Addr.mk n11 0 none)) 1 1]⟩) s12) := fun {es' y s q n} r1 r2 r3 r4 r5 n1 g1 g2 => by
      obtain ⟨hne, hrd', kk⟩ := r1.new (r := ⟨t_impl_Mark, [.slice (some (Addr.mk n 0 none)) 0 0, .bool true], 2, (0, 0)⟩) g2
      exact hR _ x5 _ y _ _ _ (hrd'.more r2) ((K6.trans r3).trans kk) (RT_le (by omega) (mono_rt _ _ _ _ _ (r3.trans kk).le hx50)) (by rw [sz_more hx50.isT (by omega)]; omega) (RT_le (by omega) (mono_rt _ _ _ _ _ kk.le r4)) (by rw [sz_more r4.isT (by omega)]; omega) (mark_row g1 (by rw [del_ne hne]; exact put_at)) ⟨by simp, fun m hm => by rw [List.mem_singleton.1 hm]; simp⟩
    refine ⟨?_, ?_⟩
    · refine spec_l4Tree hrd6 (by omega) fun es7 y s8 hrd8 k8 hy hys => ?_
      have hy0 := hy
      obtain ⟨c0, c1, c2, c3, c4, rfl, hp7⟩ := hy.shape
      simp only [cellOf_agg, List.getD_cons_zero, List.getD_cons_succ, hp6, hp7, hq, hs, hb, and_self]
      intro n9 g1 g2
      obtain ⟨hne, hrd9, k9⟩ := hrd8.new (r := ⟨t_string, [], 0, (0, 0)⟩) g2
      exact fin hrd9 (by omega) (k8.trans k9) (mono_rt _ _ _ _ _ k9.le hy0) hys
    · intro n27 g1 g2
      obtain ⟨hne, hrd9, k9⟩ := hrd6.new (r := ⟨t_string, [], 0, (0, 0)⟩) g2
      simp only [hs, hb]
      refine ⟨?_, ?_⟩
      · refine spec_l4Tree hrd9 (by omega) fun es7 y s8 hrd8 k8 hy hys => ?_
        have hy0 := hy
        obtain ⟨c0, c1, c2, c3, c4, rfl, hp7⟩ := hy.shape
        simp only [cellOf_agg, List.getD_cons_zero, List.getD_cons_succ, hp6, hp7, hq, and_self]
        exact fin hrd8 (by omega) (k9.trans k8) hy0 hys
      · rw [hq]
        intro n37 g3 g4
        obtain ⟨hne2, hrd10, k10⟩ := hrd9.new (r := ⟨t_impl_Mark, [.slice (some (Addr.mk n27 0 none)) 0 0, .bool true], 2, (0, 0)⟩) g4
        refine spec_l4Tree hrd10 (by omega) fun es7 y s8 hrd8 k8 hy hys => ?_
        have hy0 := hy
        obtain ⟨c0, c1, c2, c3, c4, rfl, hp7⟩ := hy.shape
        simp only [cellOf_agg, List.getD_cons_zero, List.getD_cons_succ, hp6, hp7]
        have kk := (k9.trans k10).trans k8
        exact hR _ x5 _ y _ _ _ (hrd8.more (by omega)) (K6.trans kk) (RT_le (by omega) (mono_rt _ _ _ _ _ kk.le hx50)) (by rw [sz_more hx50.isT (by omega)]; omega) (RT_le (by omega) hy0) (by rw [sz_more hy0.isT (by omega)]; omega) ((mark_row g3 (by rw [del_ne hne2]; exact put_at)).mono k8.le fun _ _ => mono_mk k8.le) ⟨by simp, fun m hm => by rw [List.mem_singleton.1 hm]; simp⟩
  · refine spec_pick (n := 10) hrd2 (by omega) (by omega) fun k s3 hk hrd3 hd3 _ => ?_
    have k3 : Keeps (s2.del b) (s3.del b) := by rw [hd3]; exact Keeps.refl _
    have K3 := K2.trans k3
    have hx3 := mono_rt _ _ _ _ _ (k2.trans k3).le hx0
    refine spec_l13Play hrd3 (by omega) (by omega) hx3 hxs fun es5 y v ms s4 hrd4 k4 hy hys hv hvs => ?_
    have hy0 := hy
    obtain ⟨c0, c1, c2, c3, c4, rfl, hp7⟩ := hy.shape
    rw [pExtract_s rfl, pExtract_s rfl, hp7]
    simp only [cellOf_agg, List.getD_cons_zero, List.getD_cons_succ]
    refine spec_pick (n := 8) hrd4 (by omega) (by omega) fun j2 s5 hj2 hrd5 hd5 _ => ?_
    have k5 : Keeps (s4.del b) (s5.del b) := by rw [hd5]; exact Keeps.refl _
    have K5 := (K3.trans k4).trans k5
    have hx5 := mono_rt _ _ _ _ _ (k4.trans k5).le hx3
    have hy5 := mono_rt _ _ _ _ _ k5.le hy0
    have hv5 := hv.mono k5.le fun _ _ => mono_mk k5.le
    have e1 : szT 16 x ≤ 50000000 := by rw [sz_more hx0.isT (by omega)]; omega
    have e2 : szT 16 y ≤ 50000000 := by rw [sz_more hy0.isT (by omega)]; omega
    rw [pBin_eq, pIf_d]
    refine ⟨fun _ => ?_, fun _ => ?_⟩
    · refine spec_l13Any hrd5 (by omega) hy5 (by omega) fun v' ms' s6 hrd6 k6 hv' hvs' => ?_
      rw [hp5, hp7]
      exact hR _ x _ y v' ms' s6 (hrd6.more (by omega)) (K5.trans k6) (RT_le (by omega) (mono_rt _ _ _ _ _ k6.le hx5)) e1 (RT_le (by omega) (mono_rt _ _ _ _ _ k6.le hy5)) e2 hv' hvs'
    · rw [pBin_eq, pIf_d]
      refine ⟨fun _ => ?_, fun _ => ?_⟩
      · rw [hp5, hp5]
        exact hR _ x _ x v ms s5 (hrd5.more (by omega)) K5 (RT_le (by omega) hx5) e1 (RT_le (by omega) hx5) e1 hv5 (hvs.more (by omega))
      · rw [hp5, hp7]
        exact hR _ x _ y v ms s5 (hrd5.more (by omega)) K5 (RT_le (by omega) hx5) e1 (RT_le (by omega) hy5) e2 hv5 (hvs.more (by omega))

/-- Two drawn trees and a trail. -/
abbrev OutT2M (w0 : World) (σ : Vw) (R : Value → Vw → Prop) : Prop := ∀ es (x : Tr) es' (y : Tr) v ms s, Keeps σ s → RT 16 (Av.get w0 s) es x → szT 16 x ≤ 50000000 → RT 16 (Av.get w0 s) es' y → szT 16 y ≤ 50000000 → RSl 2 RMk (Av.get w0 s) v ms → smallM 8 ms → R (.tuple ⟨[.agg ⟨es⟩, .agg ⟨es'⟩, v]⟩) s
theorem spec_DrawTrailDiff {u : Value} {bs : List Nat} (h : Bytes w0 u bs) {R : Value → Vw → Prop} (hR : OutT2M w0 σ R) : AC Tryz.prog w0 n_spec_DrawTrailDiff [u] σ R := by
  refine ac_spec_DrawTrailDiff ?_
  unfold vc_spec_DrawTrailDiff
  refine spec_l1Open h fun b s1 hrd1 hd1 hb1 => ?_
  refine spec_l13Both hrd1 (by omega) fun es x es' y v ms s2 hrd2 k2 hx hxs hy hys hv hvs => ?_
  have hx0 := hx
  have hy0 := hy
  obtain ⟨f0, f1, f2, f3, f4, rfl, hp5⟩ := hx.shape
  obtain ⟨g0, g1, g2, g3, g4, rfl, hp6⟩ := hy.shape
  rw [pExtract_s rfl, pExtract_s rfl, pExtract_s rfl, hp5, hp6]
  simp only [cellOf_agg, List.getD_cons_zero, List.getD_cons_succ]
  exact hR _ x _ y v ms s2 (draw_keeps hd1 k2) (mono_rt _ _ _ _ _ del_le hx0) hxs (mono_rt _ _ _ _ _ del_le hy0) hys (hv.mono del_le fun _ _ => mono_mk del_le) hvs

/-- A drawn trail and a mark. -/
abbrev OutAdd (w0 : World) (σ : Vw) (R : Value → Vw → Prop) : Prop := ∀ v ms es (m : Mk) s, Keeps σ s → RSl 2 RMk (Av.get w0 s) v ms → smallM 8 ms → RMk (Av.get w0 s) es m → m.1.length ≤ 4 → R (.tuple ⟨[v, .agg ⟨es⟩]⟩) s
theorem spec_DrawTrailAdd {u : Value} {bs : List Nat} (h : Bytes w0 u bs) {R : Value → Vw → Prop} (hR : OutAdd w0 σ R) : AC Tryz.prog w0 n_spec_DrawTrailAdd [u] σ R := by
  refine ac_spec_DrawTrailAdd ?_
  unfold vc_spec_DrawTrailAdd
  refine spec_l1Open h fun b s1 hrd1 hd1 hb1 => ?_
  refine spec_l4Tree hrd1 (by omega) fun es x s2 hrd2 k2 hx hxs => ?_
  have hx0 := hx
  obtain ⟨f0, f1, f2, f3, f4, rfl, hp5⟩ := hx.shape
  rw [hp5]
  simp only [cellOf_agg, List.getD_cons_zero, List.getD_cons_succ]
  refine spec_l13Any hrd2 (by omega) hx0 (by omega) fun v ms s3 hrd3 k3 hv hvs => ?_
  refine spec_l13Mark hrd3 (by omega) (mono_rt _ _ _ _ _ k3.le hx0) (by omega) fun cs m s4 hrd4 k4 hm hml => ?_
  have hm0 := hm
  obtain ⟨w, rfl, rw'⟩ := hm
  rw [pVal_2 rw'.one rfl]
  simp only [cellOf_agg, List.getD_cons_zero, List.getD_cons_succ]
  exact hR v ms _ m s4 (draw_keeps hd1 ((k2.trans k3).trans k4)) (hv.mono (k4.trans del_keeps).le fun _ _ => mono_mk (k4.trans del_keeps).le) hvs (mono_mk del_le hm0) hml

/-! ### Compared -/
end
end Go.Proofs.YtkbhjejalkbogaaGreat

/- Entries compared; where there is no difference; the law 'DiffNone', of the functions alone. -/
set_option linter.unusedVariables false
set_option linter.unusedSimpArgs false
set_option maxRecDepth 20000
namespace Go.Proofs.YtkbhjejalkbogaaGreat
open Go Go.Av Go.RowKit

section
variable {w0 : World} {σ : Vw}

theorem wtEntries {v v' : Value} {xs ys : List En} (h : RSl 5 REn (Av.get w0 σ) v xs) (h' : RSl 5 REn (Av.get w0 σ) v' ys) {R : Value → Vw → Prop} (hR : R (.bool (decide (xs = ys))) σ) : AC Tryz.prog w0 n_laws_wtEntries [v, v'] σ R := by
  refine ac_laws_wtEntries ?_
  unfold vc_laws_wtEntries
  have hl : xs.length ≤ 9223372036854775807 := h.le
  rw [h.len, h'.len, pBin_ne, pIf_d]
  refine ⟨fun hne => ?_, fun heq => ?_⟩
  · have : xs ≠ ys := fun e => hne (by rw [e])
    simpa [this] using hR
  have hlen : xs.length = ys.length := by omega
  refine loop_rule (m := xs.length) (fun m l s => ∃ j, s = σ ∧ m + j = xs.length ∧ xs.take j = ys.take j ∧ l = [v, v', .bool false, .int .i64 (j : Nat)]) ?_ ⟨0, rfl, by omega, by simp, rfl⟩
  rintro m l s L ⟨j, rfl, hm, ht, rfl⟩ hL
  simp only [vget, List.getD_cons_zero, List.getD_cons_succ]
  rw [h.len, pBin_lt, pIf_d]
  refine ⟨fun hj => ?_, fun hj => ?_⟩
  · have hx := List.getElem?_eq_getElem (show j < xs.length by omega)
    have hy := List.getElem?_eq_getElem (show j < ys.length by omega)
    generalize hxe : xs[j]'(by omega) = x at hx
    generalize hye : ys[j]'(by omega) = y at hy
    have no : x ≠ y → R (.bool false) s := fun hne => by
      have : xs ≠ ys := fun e => hne (by rw [← hxe, ← hye]; simp [e])
      simpa [this] using hR
    refine RSl.atf h hx 0 (by omega) fun es g r q => ?_
    obtain ⟨u, rfl, ru, _⟩ := r
    simp only [List.getElem?_cons_zero, Option.some.injEq] at q
    refine RSl.atf h' hy 0 (by omega) fun es' g' r' q' => ?_
    obtain ⟨w, rfl, rw', _⟩ := r'
    simp only [List.getElem?_cons_zero, Option.some.injEq] at q'
    rw [← q, ← q']
    refine wtTexts ru rw' ?_
    rw [pUn_not, pIf_b]
    refine ⟨fun hne => no fun e => (by subst e; simp at hne), fun e0 => ?_⟩
    have e0 : x.1 = y.1 := by simpa using e0
    refine RSl.atf h hx 1 (by omega) fun es g r q => ?_
    obtain ⟨u, rfl, _⟩ := r
    simp only [List.getElem?_cons_zero, List.getElem?_cons_succ, Option.some.injEq] at q
    refine RSl.atf h' hy 1 (by omega) fun es' g' r' q' => ?_
    obtain ⟨w, rfl, _⟩ := r'
    simp only [List.getElem?_cons_zero, List.getElem?_cons_succ, Option.some.injEq] at q'
    rw [← q, ← q', pBin_ne, pIf_d]
    refine ⟨fun hne => no fun e => hne (by rw [e]), fun e1 => ?_⟩
    have e1 := Decidable.not_not.1 e1
    refine RSl.atf h hx 2 (by omega) fun es g r q => ?_
    obtain ⟨u, rfl, _⟩ := r
    simp only [List.getElem?_cons_zero, List.getElem?_cons_succ, Option.some.injEq] at q
    refine RSl.atf h' hy 2 (by omega) fun es' g' r' q' => ?_
    obtain ⟨w, rfl, _⟩ := r'
    simp only [List.getElem?_cons_zero, List.getElem?_cons_succ, Option.some.injEq] at q'
    have eb : ∀ (p q : Bool) (K : Value → Prop), pBin Tryz.prog 4 .neq (.bool p) (.bool q) K ↔ K (.bool !(p == q)) := fun p q K => pBin_b (by kernel_rfl) rfl
    rw [← q, ← q', eb, pIf_b]
    refine ⟨fun hne => no fun e => (by subst e; simp at hne), fun e2 => ?_⟩
    have e2 : x.2.2.1 = y.2.2.1 := by simpa using e2
    refine RSl.atf h hx 3 (by omega) fun es g r q => ?_
    obtain ⟨u, rfl, _⟩ := r
    simp only [List.getElem?_cons_zero, List.getElem?_cons_succ, Option.some.injEq] at q
    refine RSl.atf h' hy 3 (by omega) fun es' g' r' q' => ?_
    obtain ⟨w, rfl, _⟩ := r'
    simp only [List.getElem?_cons_zero, List.getElem?_cons_succ, Option.some.injEq] at q'
    rw [← q, ← q', pBin_ne, pIf_d]
    refine ⟨fun hne => no fun e => hne (by rw [e]), fun e3 => ?_⟩
    have e3 := Decidable.not_not.1 e3
    refine RSl.atf h hx 4 (by omega) fun es g r q => ?_
    obtain ⟨u, rfl, _⟩ := r
    simp only [List.getElem?_cons_zero, List.getElem?_cons_succ, Option.some.injEq] at q
    refine RSl.atf h' hy 4 (by omega) fun es' g' r' q' => ?_
    obtain ⟨w, rfl, _⟩ := r'
    simp only [List.getElem?_cons_zero, List.getElem?_cons_succ, Option.some.injEq] at q'
    rw [← q, ← q', pBin_sne, pIf_d]
    refine ⟨fun hne => no fun e => hne (by rw [e]), fun e4 => ?_⟩
    have e4 := Decidable.not_not.1 e4
    rw [pBin_add (by omega)]
    refine hL _ _ (m - 1) (by omega) ⟨j + 1, rfl, by omega, ?_, rfl⟩
    have exy : x = y := by
      obtain ⟨a1, a2, a3, a4, a5⟩ := x
      obtain ⟨b1, b2, b3, b4, b5⟩ := y
      simp only at e0 e1 e2 e3 e4
      rw [e0, e1, e2, e3, e4]
    rw [List.take_add_one, List.take_add_one, hx, hy, ht, exy]
  · have hj' : j = xs.length := by omega
    subst hj'
    rw [List.take_length, hlen, List.take_length] at ht
    subst ht
    simpa using hR

end
end Go.Proofs.YtkbhjejalkbogaaGreat

/- The laws TrailMore and TrailAdd. -/
set_option linter.unusedVariables false
set_option linter.unusedSimpArgs false
set_option maxRecDepth 20000
namespace Go.Proofs.YtkbhjejalkbogaaGreat
open Go Go.Av Go.RowKit

section
variable {w0 : World} {σ : Vw}

set_option maxHeartbeats 4000000 in
theorem law_TrailMore {u u' : Value} {bs bs' : List Nat} (h : Bytes w0 u bs) (h' : Bytes w0 u' bs') {R : Value → Vw → Prop} (hR : ∀ s, R (.bool true) s) : AC Tryz.prog w0 n_laws_FnTrailMore [u, u'] σ R := by
  refine ac_laws_FnTrailMore ?_
  unfold vc_laws_FnTrailMore
  rw [h.len, pBin_gt, pIf_d]
  refine ⟨fun _ => hR _, fun _ => ?_⟩
  rw [h'.len, pBin_gt, pIf_d]
  refine ⟨fun _ => hR _, fun _ => ?_⟩
  refine spec_DrawTrailDiff h fun es x es' y v ms s1 k1 hx hxs hy hys hv hvs => ?_
  have hx0 := hx
  have hy0 := hy
  obtain ⟨f0, f1, f2, f3, f4, rfl, hp5⟩ := hx.shape
  obtain ⟨g0, g1, g2, g3, g4, rfl, hp6⟩ := hy.shape
  rw [pExtract_s rfl, pExtract_s rfl, pExtract_s rfl, hp5, hp6]
  simp only [cellOf_agg, List.getD_cons_zero, List.getD_cons_succ]
  refine spec_DrawTrailAdd h' fun va mas cs m s2 k2 hva hvas hm hml => ?_
  have hm0 := hm
  obtain ⟨w, rfl, rw'⟩ := hm
  rw [pExtract_s rfl, pExtract_s rfl, pVal_2 rw'.one rfl]
  simp only [cellOf_agg, List.getD_cons_zero, List.getD_cons_succ]
  have hcx : cntT 16 x ≤ 1000000000000 := Nat.le_trans (cnt_le 16 x) (by omega)
  have hcy : cntT 16 y ≤ 1000000000000 := Nat.le_trans (cnt_le 16 y) (by omega)
  have tx : ∀ {s : Vw}, Keeps s1 s → RT 16 (Av.get w0 s) _ x := fun k => mono_rt _ _ _ _ _ k.le hx0
  have ty : ∀ {s : Vw}, Keeps s1 s → RT 16 (Av.get w0 s) _ y := fun k => mono_rt _ _ _ _ _ k.le hy0
  have tv : ∀ {s : Vw}, Keeps s1 s → RSl 2 RMk (Av.get w0 s) v ms := fun k => hv.mono k.le fun _ _ => mono_mk k.le
  refine impl_TrailDiff (tx k2) (ty k2) (tv k2) hcx hcy fun v3 F3 s3 k3 o3 _ => ?_
  have K3 := k2.trans k3
  rw [pExtract_s rfl, pExtract_s rfl]
  refine spec_TrailDiff (tx K3) (ty K3) (tv K3) hcx hcy fun v4 F4 s4 k4 o4 _ => ?_
  have K4 := K3.trans k4
  rw [pExtract_s rfl, pExtract_s rfl]
  have r3 := o3.rel (ok_en w0)
  refine wtEntries (r3.mono k4.le fun _ _ => mono_en k4.le) (o4.rel (ok_en w0)) ?_
  rw [pUn_not, pIf_b]
  refine ⟨fun h => by simp at h, fun _ => ?_⟩
  refine spec_TrailCovers (tx K4) (ty K4) (tv K4) hcx hcy fun s5 k5 => ?_
  rw [pUn_not, pIf_b]
  refine ⟨fun _ => hR _, fun hc => ?_⟩
  have hc : coversX 16 16 x y ms = true := by simpa using hc
  have K5 := K4.trans k5
  have k35 := k4.trans k5
  refine impl_TrailAdd (tv K5) (mono_mk ((k3.trans k4).trans k5).le hm0) fun r hr v6 F6 s6 k6 o6 _ => ?_
  have K6 := K5.trans k6
  have r6 := o6.rel (ok_mk w0)
  refine impl_TrailDiff (tx K6) (ty K6) r6 hcx hcy fun v7 F7 s7 k7 o7 _ => ?_
  have K7 := K6.trans k7
  rw [pExtract_s rfl, pExtract_s rfl]
  refine impl_TrailCovers (tx K7) (ty K7) (r6.mono k7.le fun _ _ => mono_mk k7.le) hcx hcy fun s8 k8 => ?_
  have hc' := covers_more hc hr
  rw [hc', pIf_b]
  refine ⟨fun _ => ?_, fun h => by cases h⟩
  have k38 := ((k35.trans k6).trans k7).trans k8
  refine wtEntries ((o7.rel (ok_en w0)).mono k8.le fun _ _ => mono_en k8.le) (r3.mono k38.le fun _ _ => mono_en k38.le) ?_
  rw [diffM_walk hc, diffM_walk hc', decide_eq_true rfl]
  exact hR _

end
end Go.Proofs.YtkbhjejalkbogaaGreat

/- The law FnTrailMore holds: it returns true, and the input reads as it did. No condition. -/
namespace Go.Proofs.YtkbhjejalkbogaaGreat.fnTrailMore
open Go.ChangeShapes Go.WideShapes Go.ChangeAt Go.RowKit Go.Av
set_option linter.unusedVariables false
set_option linter.unusedSimpArgs false
theorem own : ownKnob Tryz.prog.godebug = none := by kernel_rfl
theorem laidOut : laidOutB Tryz.prog = true := by kernel_rfl
set_option maxRecDepth 100000 in
theorem lifted (os : Os) (started : os.Started) (H : Type) (enc : TypeId × Value → H) :
    ReturnsInHanded {} Tryz.checked os 3 .any (Rows.fnTrailMoreSpec.pre6 enc Tryz.prog Tryz.f3 Rows.fnTrailMoreRow.domain false) (Rows.fnTrailMoreSpec.post enc Tryz.prog Tryz.f3 false true false false) := by
  refine returnsInHanded_of_change_sized (C := Tryz.checked) own started (by kernel_rfl) Tryz.func3
    (ChangeSpec.witness6 (enc := enc) (C := Tryz.checked) false ⟨#[], #[.slice none 0 0, .slice none 0 0], []⟩ 8 (by kernel_rfl) (by kernel_rfl) (by kernel_rfl) (by kernel_rfl)) ?_
  intro W base args ds gs before hval0 hW hcnd hsz0 _
  have hval : ∀ (j : Nat) t v, Tryz.f3.params[j]? = some t → args[j]? = some v → Value.okWide Tryz.prog W .any base t v := hval0
  have hW' := hW
  obtain ⟨p, q, hA0, hV, rfl, hfz, hnd⟩ := hW
  have hA : DataW.TrodAll enc Tryz.prog W 0 (fun _ => true) true Tryz.f3.params.toList args.toList ds p := hA0
  rw [Tryz.params3] at hA hval
  obtain ⟨v0, v1, d0, d1, p0, p1, rfl, rfl, hpp, h0, h1⟩ := trodAll_two hA
  obtain ⟨rfl, rfl⟩ := trodVars_none hV
  obtain ⟨A0, len0, cap0, rfl⟩ := okWide_slice (t := 22) (e := 5) (by kernel_rfl) (hval 0 22 v0 rfl rfl)
  obtain ⟨A1, len1, cap1, rfl⟩ := okWide_slice (t := 22) (e := 5) (by kernel_rfl) (hval 1 22 v1 rfl rfl)
  have h0k := h0
  obtain ⟨fuel0, hf0⟩ := h0
  have h1k := h1
  obtain ⟨fuel1, hf1⟩ := h1
  clear hA0 hval0 hsz0
  simp only [List.append_nil] at hW'
  have hlt : ∀ x ∈ p, x.block < W.heap.size := fun x hx => by simpa using hW'.lt x hx
  have hargs0 : ∀ (W' : World), Below W.heap.size W W' → DataW.Trod enc Tryz.prog W' 0 (fun b => decide (b < W.heap.size)) true 22 (.slice A0 len0 cap0) d0 p0 :=
    fun W' hn => Below.trod laidOut (by kernel_rfl) (of_decide_eq_true (by kernel_rfl)) h0k hn (fun x hx => hlt x (by rw [hpp]; simp [hx]))
  have hargs1 : ∀ (W' : World), Below W.heap.size W W' → DataW.Trod enc Tryz.prog W' 0 (fun b => decide (b < W.heap.size)) true 22 (.slice A1 len1 cap1) d1 p1 :=
    fun W' hn => Below.trod laidOut (by kernel_rfl) (of_decide_eq_true (by kernel_rfl)) h1k hn (fun x hx => hlt x (by rw [hpp]; simp [hx]))
  obtain ⟨u0, x0, hu0, r0⟩ := open_rsl (t := t_s_uint8) (e := t_uint8) (by kernel_rfl) (by kernel_rfl) open_byte hf0
  have hu0' : u0 = .slice A0 len0 cap0 := by
    have : [Value.slice A0 len0 cap0] = [u0] := hu0
    cases this; rfl
  subst hu0'
  obtain ⟨u1, x1, hu1, r1⟩ := open_rsl (t := t_s_uint8) (e := t_uint8) (by kernel_rfl) (by kernel_rfl) open_byte hf1
  have hu1' : u1 = .slice A1 len1 cap1 := by
    have : [Value.slice A1 len1 cap1] = [u1] := hu1
    cases this; rfl
  subst hu1'
  refine ((law_TrailMore (R := fun v _ => v = .bool true) r0 r1 (by intros; rfl)).calls).mono fun e W' ⟨v, σ', he, hv, bel⟩ => ?_
  subst he hv
  have hW'' := hW'
  rw [hpp] at hW''
  exact ⟨_, rfl, _, _, _, [], _, [], hW'', trodAll_mk1 (shut_bool Tryz.underlying4 _), trodAll_mk2 (hargs0 W' bel) (hargs1 W' bel), rfl, bel.frame _, fun h => by cases h⟩
theorem over : Rows.fnTrailMoreRow.holds Tryz.pinned (OpenSpec.ofChange Rows.fnTrailMoreSpec) :=
  OpenClaim.holds_of_wide 3 Tryz.f3 rfl rfl rfl rfl rfl rfl rfl ⟨rfl, rfl, rfl, rfl, rfl⟩ rfl rfl rfl rfl rfl (by kernel_rfl) Tryz.func3 (by kernel_rfl)
    (of_decide_eq_true (by kernel_rfl)) (by unfold Func.isWrapper; first | (rw [if_pos (by decide +kernel)]; kernel_rfl) | (rw [if_neg (by decide +kernel)]; exact ⟨rfl, rfl⟩))
    (fun os started H enc _ => lifted os started H enc)
theorem proved : Rows.FnTrailMoreSaid := over
end Go.Proofs.YtkbhjejalkbogaaGreat.fnTrailMore
namespace Go.Proofs.YtkbhjejalkbogaaGreat
/-- The row, under a short name, for the claim. -/
theorem fnTrailMore_holds : Rows.FnTrailMoreSaid := fnTrailMore.proved
end Go.Proofs.YtkbhjejalkbogaaGreat
