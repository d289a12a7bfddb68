/- The law FnExactTrailCovers holds: it returns true, and the input reads as it did. No condition. This is part 4 of 4 of its proof. -/
import Derived.Test.YtkbhjejalkbogaaXFnExactTrailCovers3
import Derived.Test.YtkbhjejalkbogaaRows
import Derived.WalkKit
import Derived.ProofKit
import Derived.OpenShut
import Derived.ShutString
import Derived.ChangeOld
import Derived.Below
import Derived.Carry
import Derived.SizedLaws

/- Whether all that differs is marked, by either hand; 'TrailCovers' and its law. -/
set_option linter.unusedVariables false
set_option linter.unusedSimpArgs false
set_option maxRecDepth 20000
namespace Go.Proofs.Ytkbhjejalkbogaa
open Go Go.Av

noncomputable def coversX (n m : Nat) (x y : Tr) (ms : List Mk) : Bool := (treeOk n x && treeOk m y) && (trailOk ms && covP 5 ms [] (some x) (some y))
section
variable {w0 : World} {σ : Vw}

/-- The names one by one, by the reference's hand. -/
def VSC (w0 : World) (v mv x0 x1 x2 x3 x4 y0 y1 y2 y3 y4 : Value) (s : Vw) (R : Value → Vw → Prop) : Prop :=
  AC Try.prog w0 n_spec_l12Names ([.agg (⟨[x0, x1, x2, x3, x4]⟩), .agg (⟨[y0, y1, y2, y3, y4]⟩)]) s (fun v4 s5 => pLoop (fun l6 K7 s8 => pLen (vget l6 3) (fun v9 => pBin Try.prog 3 .lss (vget l6 4) v9 (fun v10 => pIf v10 (pIndexAddr 1 (vget l6 3) (vget l6 4) (fun v11 => pLoad w0 1 v11 s8 (fun g12 => AC Try.prog w0 n_spec_l12Kid ([.agg (⟨[vget l6 5, vget l6 6, vget l6 7, vget l6 8, vget l6 9]⟩), g12 0]) s8 (fun v13 s14 => pExtract v13 0 (fun v15 => pExtract v13 1 (fun v16 => pVal true 5 v15 (pIndexAddr 1 (vget l6 3) (vget l6 4) (fun v17 => pLoad w0 1 v17 s14 (fun g18 => AC Try.prog w0 n_spec_l12Kid ([.agg (⟨[vget l6 10, vget l6 11, vget l6 12, vget l6 13, vget l6 14]⟩), g18 0]) s14 (fun v19 s20 => pExtract v19 0 (fun v21 => pExtract v19 1 (fun v22 => pVal true 5 v21 (pIndexAddr 1 (vget l6 3) (vget l6 4) (fun v23 => pLoad w0 1 v23 s20 (fun g24 => AC Try.prog w0 n_spec_l3Path [vget l6 0, g24 0] s20 (fun v25 s26 => AC Try.prog w0 n_spec_l12Covers ([v25, .agg (⟨[cellOf v15 0, cellOf v15 1, cellOf v15 2, cellOf v15 3, cellOf v15 4]⟩), v16, .agg (⟨[cellOf v21 0, cellOf v21 1, cellOf v21 2, cellOf v21 3, cellOf v21 4]⟩), v22, vget l6 1]) s26 (fun v27 s28 => pUn UnOp.not v27 (fun v29 => pIf v29 (K7 AX.ret [vget l6 0, vget l6 1, .bool false, vget l6 3, vget l6 4, vget l6 5, vget l6 6, vget l6 7, vget l6 8, vget l6 9, vget l6 10, vget l6 11, vget l6 12, vget l6 13, vget l6 14] s28) (pBin Try.prog 3 .add (vget l6 4) (.int .i64 1) (fun v30 => K7 AX.normal [vget l6 0, vget l6 1, vget l6 2, vget l6 3, v30, vget l6 5, vget l6 6, vget l6 7, vget l6 8, vget l6 9, vget l6 10, vget l6 11, vget l6 12, vget l6 13, vget l6 14] s28)))))))))))))))))))) (K7 (AX.exit 0) [vget l6 0, vget l6 1, vget l6 2, vget l6 3, vget l6 4, vget l6 5, vget l6 6, vget l6 7, vget l6 8, vget l6 9, vget l6 10, vget l6 11, vget l6 12, vget l6 13, vget l6 14] s8)))) [v, mv, .bool false, v4, .int .i64 0, x0, x1, x2, x3, x4, y0, y1, y2, y3, y4] s5 (fun x31 l32 s33 => match x31 with | .normal => R (.bool true) s33 | .ret => R (vget l32 2) s33 | .exit i34 => (match Nat.beq i34 0 with | true => R (.bool true) s33 | false => False)))

theorem all_take {α : Type} {W : α → Bool} {L : List α} {j : Nat} {x : α} (hj : L[j]? = some x) : (L.take (j + 1)).all W = ((L.take j).all W && W x) := by
  rw [List.take_add_one, hj, List.all_append]; simp
theorem all_bad {α : Type} {W : α → Bool} {L : List α} {j : Nat} {x : α} (hj : L[j]? = some x) (h : W x = false) : L.all W = false := by
  cases hc : L.all W with
  | false => rfl
  | true => rw [List.all_eq_true] at hc; rw [hc x (List.mem_of_getElem? hj)] at h; cases h
theorem covP_names {n : Nat} {ms : List Mk} {ps : List ByteArray} {a b : Option Tr} (hx : fineT (n + 1) (a.getD zeroT)) (hy : fineT (n + 1) (b.getD zeroT)) :
    covP (n + 1) ms ps a b = ((!diffB a b || markedB ms ps) && (namesU (namesOf (a.getD zeroT) ++ namesOf (b.getD zeroT))).all fun nm => covP n ms (ps ++ [nm]) (kidT (a.getD zeroT) nm) (kidT (b.getD zeroT) nm)) := by
  show (_ && (mrgK (partsOf (a.getD zeroT)) (partsOf (b.getD zeroT))).all _) = _
  rw [mrg_kids hx hy, List.all_map]
  rfl

theorem spec_Covers : ∀ (n : Nat) {σ : Vw} {v mv : Value} {es es' : List Value} {ps : List ByteArray} {ms : List Mk} {a b : Option Tr} {R : Value → Vw → Prop}, RSl 1 RS (Av.get w0 σ) v ps → RSl 2 RMk (Av.get w0 σ) mv ms → RT n (Av.get w0 σ) es (a.getD zeroT) → RT n (Av.get w0 σ) es' (b.getD zeroT) → fineO n a → fineO n b →
    ¬ (a = none ∧ b = none) → ps.length + sumS ps + 6 * n ≤ 1000000 → (∀ s, Keeps σ s → R (.bool (covP n ms ps a b)) s) → AC Try.prog w0 n_spec_l12Covers [v, .agg ⟨es⟩, .bool a.isSome, .agg ⟨es'⟩, .bool b.isSome, mv] σ R := by
  intro n
  induction n with
  | zero => intro σ v mv es es' ps ms a b R _ _ h; exact h.elim
  | succ n ih =>
    intro σ v mv es es' ps ms a b R hv hm h h' hfa hfb hne hps hR
    have h0 := h
    have h0' := h'
    have hx := fine_getD hfa
    have hy := fine_getD hfb
    obtain ⟨u, w, rfl, _, _, _, _, hp⟩ := h.cells
    obtain ⟨u', w', rfl, _, _, _, _, hp'⟩ := h'.cells
    refine ac_spec_l12Covers ?_
    unfold vc_spec_l12Covers
    rw [hp, hp']
    simp only [cellOf_agg, List.getD_cons_zero, List.getD_cons_succ]
    have hcov := covP_names (ms := ms) (ps := ps) hx hy
    have hl1 := fine_len hx
    have hl2 := fine_len hy
    have hLl := names_both hx hy
    have hLm : ∀ z, z ∈ namesU (namesOf (a.getD zeroT) ++ namesOf (b.getD zeroT)) → z ∈ namesOf (a.getD zeroT) ∨ z ∈ namesOf (b.getD zeroT) := fun z hz => by rw [namesU_mem, List.mem_append] at hz; exact hz
    -- the names one by one
    have TAIL : (!diffB a b || markedB ms ps) = true → VSC w0 v mv (.bool (isDir (a.getD zeroT))) (.int .i64 (modeOf (a.getD zeroT))) (.string (dataOf (a.getD zeroT))) u w (.bool (isDir (b.getD zeroT))) (.int .i64 (modeOf (b.getD zeroT))) (.string (dataOf (b.getD zeroT))) u' w' σ R := by
      intro hd
      rw [hd, Bool.true_and] at hcov
      rw [hcov] at hR
      clear hcov
      unfold VSC
      refine spec_l12Names h0 h0' (fine_asc hx) (fine_asc hy) (by omega) fun nv F s1 k1 on fn => ?_
      generalize namesU (namesOf (a.getD zeroT) ++ namesOf (b.getD zeroT)) = L at *
      generalize hW : (fun nm => covP n ms (ps ++ [nm]) (kidT (a.getD zeroT) nm) (kidT (b.getD zeroT) nm)) = W at hR
      refine loop_rule (m := L.length) (fun c l st => ∃ j : Nat, c + j = L.length ∧ Keeps σ st ∧ OStrs w0 st F nv L ∧ (L.take j).all W = true ∧
          l = [v, mv, .bool false, nv, .int .i64 (j : Nat), .bool (isDir (a.getD zeroT)), .int .i64 (modeOf (a.getD zeroT)), .string (dataOf (a.getD zeroT)), u, w, .bool (isDir (b.getD zeroT)), .int .i64 (modeOf (b.getD zeroT)), .string (dataOf (b.getD zeroT)), u', w']) ?_
        ⟨0, by omega, k1, on, by simp, rfl⟩
      rintro c l st L' ⟨j, hcj, ks, hon, hal, rfl⟩ hL'
      simp only [vget, List.getD_cons_zero, List.getD_cons_succ]
      have onr := hon.rel (ok_str w0)
      rw [onr.len, pBin_lt, pIf_d]
      refine ⟨fun hj => ?_, fun hj => ?_⟩
      · have hnm := List.getElem?_eq_getElem (show j < L.length by omega)
        generalize L[j]'(by omega) = nm at hnm
        have hmem := hLm nm (List.mem_of_getElem? hnm)
        have hn0 : n ≠ 0 := by
          rcases hmem with hm | hm
          · exact kid_level hx hm
          · exact kid_level hy hm
        obtain ⟨n', rfl⟩ := Nat.exists_eq_succ_of_ne_zero hn0
        have hsz5 : nm.size ≤ 5 := by
          rcases hmem with h | h
          · exact name_short hx.1 h
          · exact name_short hy.1 h
        refine RSl.at1 onr hnm fun g hg hgs => ?_
        rw [hg]
        refine spec_l12Kid (mono_rt _ _ _ _ _ ks.le h0) hx hgs fun e1 s2 k2 r1 => ?_
        have r10 := r1
        obtain ⟨u2, w2, rfl, _, _, _, _, hp2⟩ := r1.cells
        rw [pExtract_s rfl, pExtract_s rfl, hp2]
        refine RSl.at1 (onr.mono k2.le fun _ _ h => h) hnm fun g' hg' _ => ?_
        rw [hg']
        refine spec_l12Kid (mono_rt _ _ _ _ _ (ks.trans k2).le h0') hy hgs fun e2 s3 k3 r2 => ?_
        have r20 := r2
        obtain ⟨u3, w3, rfl, _, _, _, _, hp3⟩ := r2.cells
        rw [pExtract_s rfl, pExtract_s rfl, hp3]
        have K3 := (ks.trans k2).trans k3
        refine RSl.at1 (onr.mono (k2.trans k3).le fun _ _ h => h) hnm fun g2 hg2 _ => ?_
        rw [hg2]
        refine spec_path (hv.mono K3.le fun _ _ h => h) (by omega) (by omega) fun pv PF s4 k4 op fp => ?_
        simp only [cellOf_agg, List.getD_cons_zero, List.getD_cons_succ]
        have f1 := fine_getD (kid_fineT hx nm)
        have f2 := fine_getD (kid_fineT hy nm)
        have K4 := K3.trans k4
        have hne' : ¬ (kidT (a.getD zeroT) nm = none ∧ kidT (b.getD zeroT) nm = none) := fun h => by
          rcases hmem with hm | hm
          · exact kid_there hx.1 hm h.1
          · exact kid_there hy.1 hm h.2
        refine ih (a := kidT (a.getD zeroT) nm) (b := kidT (b.getD zeroT) nm) (op.rel (ok_str w0)) (hm.mono K4.le fun _ _ => mono_mk K4.le) (RT_short _ _ _ _ _ (mono_rt _ _ _ _ _ (k3.trans k4).le r10) f1.1) (RT_short _ _ _ _ _ (mono_rt _ _ _ _ _ k4.le r20) f2.1) (kid_fineT hx nm) (kid_fineT hy nm) hne'
          (by rw [List.length_append, sumS_snoc]; simp only [List.length_cons, List.length_nil]; omega) fun s5 k5 => ?_
        have hW1 : covP (n' + 1) ms (ps ++ [nm]) (kidT (a.getD zeroT) nm) (kidT (b.getD zeroT) nm) = W nm := by rw [← hW]
        rw [hW1, pUn_not, pIf_b]
        have K5 := K4.trans k5
        refine ⟨fun hb => ?_, fun hb => ?_⟩
        · have hb' : W nm = false := by simpa using hb
          have := hR s5 K5
          rw [all_bad hnm hb'] at this
          exact this
        · have hb' : W nm = true := by simpa using hb
          rw [pBin_add (by omega)]
          have kk := ((k2.trans k3).trans k4).trans k5
          exact hL' _ _ (c - 1) (by omega) ⟨j + 1, by omega, K5, hon.frame (ok_str w0) (kk.but_at fun i hi => (hon.dom (ok_str w0) i hi).2), by rw [all_take hnm, hal, hb']; rfl, by simp⟩
      · have e : j = L.length := by omega
        subst e
        rw [List.take_length] at hal
        have := hR st ks
        rw [hal] at this
        exact this
    -- what differs
    have DIFF : diffB a b = true → AC Try.prog w0 n_spec_l11Marked [mv, v] σ (fun v1 s2 => pUn UnOp.not v1 (fun v3 => pIf v3 (R (.bool false) s2) (VSC w0 v mv (.bool (isDir (a.getD zeroT))) (.int .i64 (modeOf (a.getD zeroT))) (.string (dataOf (a.getD zeroT))) u w (.bool (isDir (b.getD zeroT))) (.int .i64 (modeOf (b.getD zeroT))) (.string (dataOf (b.getD zeroT))) u' w' s2 R))) := by
      intro hd
      refine spec_l11Marked hm hv ?_
      rw [pUn_not, pIf_b]
      refine ⟨fun hmk => ?_, fun hmk => ?_⟩
      · have hmk' : markedB ms ps = false := by simpa using hmk
        have := hR σ (Keeps.refl _)
        rw [hcov, hd, hmk'] at this
        exact this
      · have hmk' : markedB ms ps = true := by simpa using hmk
        exact TAIL (by rw [hmk']; simp)
    have eb : ∀ (p q : Bool) (K : Value → Prop), pBin Try.prog 4 .neq (.bool p) (.bool q) K ↔ K (.bool !(p == q)) := fun p q K => pBin_b (by kernel_rfl) rfl
    rw [eb, pIf_b]
    cases a with
    | none =>
      cases b with
      | none => exact absurd ⟨rfl, rfl⟩ hne
      | some y => exact ⟨fun _ => DIFF rfl, fun h => by cases h⟩
    | some x =>
      cases b with
      | none => exact ⟨fun _ => DIFF rfl, fun h => by cases h⟩
      | some y =>
        refine ⟨fun h => (by cases h), fun _ => ?_⟩
        have hdf : diffB (some x) (some y) = !(decide (isDir x = isDir y) && (decide (modeOf x = modeOf y) && decide (dataOf x = dataOf y))) := rfl
        rw [eb, pIf_b]
        refine ⟨fun hd => DIFF ?_, fun hd => ?_⟩
        · have : ¬ isDir x = isDir y := by simpa using hd
          rw [hdf, decide_eq_false this]; rfl
        have hd' : isDir x = isDir y := by simpa using hd
        rw [pBin_ne, pIf_d]
        refine ⟨fun hmo => DIFF ?_, fun hmo => ?_⟩
        · rw [hdf, decide_eq_false (show ¬ modeOf x = modeOf y from hmo)]; simp
        have hmo' : modeOf x = modeOf y := Decidable.not_not.1 hmo
        rw [pBin_sne, pIf_d]
        refine ⟨fun hda => DIFF ?_, fun hda => TAIL ?_⟩
        · rw [hdf, decide_eq_false (show ¬ dataOf x = dataOf y from hda)]; simp
        · have hda' : dataOf x = dataOf y := Decidable.not_not.1 hda
          rw [hdf, decide_eq_true hd', decide_eq_true hmo', decide_eq_true hda']; rfl

/-- The names one by one, by the program's hand. -/
def VIC (w0 : World) (v p q mv : Value) (s : Vw) (R : Value → Vw → Prop) : Prop :=
  AC Try.prog w0 n_impl_either [p, q] s (fun v25 s26 => pLen v25 (fun v27 => pLoop (fun l28 K29 s30 => pBin Try.prog 3 .lss (vget l28 7) (vget l28 6) (fun v31 => pIf v31 (pIndexAddr 1 (vget l28 5) (vget l28 7) (fun v32 => pLoad w0 1 v32 s30 (fun g33 => AC Try.prog w0 n_impl_below [vget l28 0, g33 0] s30 (fun v34 s35 => AC Try.prog w0 n_p_impl_Tree_kid [vget l28 1, g33 0] s35 (fun v36 s37 => AC Try.prog w0 n_p_impl_Tree_kid [vget l28 2, g33 0] s37 (fun v38 s39 => AC Try.prog w0 n_impl_covers [v34, v36, v38, vget l28 3] s39 (fun v40 s41 => pUn UnOp.not v40 (fun v42 => pIf v42 (K29 AX.ret [vget l28 0, vget l28 1, vget l28 2, vget l28 3, .bool false, vget l28 5, vget l28 6, vget l28 7] s41) (pBin Try.prog 3 .add (vget l28 7) (.int .i64 1) (fun v43 => K29 AX.normal [vget l28 0, vget l28 1, vget l28 2, vget l28 3, vget l28 4, vget l28 5, vget l28 6, v43] s41)))))))))) (K29 (AX.exit 0) [vget l28 0, vget l28 1, vget l28 2, vget l28 3, vget l28 4, vget l28 5, vget l28 6, vget l28 7] s30))) [v, p, q, mv, .bool false, v25, v27, .int .i64 0] s26 (fun x44 l45 s46 => match x44 with | .normal => R (.bool true) s46 | .ret => R (vget l45 4) s46 | .exit i47 => (match Nat.beq i47 0 with | true => R (.bool true) s46 | false => False))))
def VIT (w0 : World) (v a1 a2 mv : Value) (s : Vw) (R : Value → Vw → Prop) : Prop :=
  pVal true 5 (.agg (⟨[.bool false, .int .i64 0, .string ({ data := #[] }), .slice none 0 0, .slice none 0 0]⟩)) (pNew w0 t_impl_Tree ([.bool false, .int .i64 0, .string ({ data := #[] }), .slice none 0 0, .slice none 0 0]) s (fun n21 s22 => pBin Try.prog t_p_impl_Tree .eql a1 (.pointer none) (fun v23 => pIf v23 (pBin Try.prog t_p_impl_Tree .eql a2 (.pointer none) (fun v24 => pIf v24 (VIC w0 v (.pointer (some (Addr.mk n21 0 none))) (.pointer (some (Addr.mk n21 0 none))) mv s22 R) (VIC w0 v (.pointer (some (Addr.mk n21 0 none))) a2 mv s22 R))) (pBin Try.prog t_p_impl_Tree .eql a2 (.pointer none) (fun v71 => pIf v71 (VIC w0 v a1 (.pointer (some (Addr.mk n21 0 none))) mv s22 R) (VIC w0 v a1 a2 mv s22 R))))))

theorem impl_covers : ∀ (n : Nat) {σ : Vw} {v mv p q : Value} {ps : List ByteArray} {ms : List Mk} {a b : Option Tr} {R : Value → Vw → Prop}, RSl 1 RS (Av.get w0 σ) v ps → RSl 2 RMk (Av.get w0 σ) mv ms → PO n (Av.get w0 σ) p a → PO n (Av.get w0 σ) q b → fineO n a → fineO n b →
    ¬ (a = none ∧ b = none) → ps.length + sumS ps + 6 * n ≤ 1000000 → (∀ s, Keeps σ s → R (.bool (covP n ms ps a b)) s) → AC Try.prog w0 n_impl_covers [v, p, q, mv] σ R := by
  intro n
  induction n with
  | zero =>
    intro σ v mv p q ps ms a b R _ _ ha hb _ _ hne
    exfalso
    cases a with
    | some x => obtain ⟨_, _, _, _, _, h⟩ := ha; exact h
    | none => cases b with
      | some x => obtain ⟨_, _, _, _, _, h⟩ := hb; exact h
      | none => exact hne ⟨rfl, rfl⟩
  | succ n ih =>
    intro σ v mv p q ps ms a b R hv hm ha hb hfa hfb hne hps hR
    have hx := fine_getD hfa
    have hy := fine_getD hfb
    refine ac_impl_covers ?_
    unfold vc_impl_covers
    have hcov := covP_names (ms := ms) (ps := ps) hx hy
    have hl1 := fine_len hx
    have hl2 := fine_len hy
    have hLl := names_both hx hy
    have hLm : ∀ z, z ∈ namesU (namesOf (a.getD zeroT) ++ namesOf (b.getD zeroT)) → z ∈ namesOf (a.getD zeroT) ∨ z ∈ namesOf (b.getD zeroT) := fun z hz => by rw [namesU_mem, List.mem_append] at hz; exact hz
    have LOOP : (!diffB a b || markedB ms ps) = true → ∀ (s : Vw) (p q : Value), Keeps σ s → PT (n + 1) (Av.get w0 s) p (a.getD zeroT) → PT (n + 1) (Av.get w0 s) q (b.getD zeroT) → VIC w0 v p q mv s R := by
      intro hd s p q k0 hpa hpb
      rw [hd, Bool.true_and] at hcov
      rw [hcov] at hR
      clear hcov
      unfold VIC
      refine impl_either hpa hpb (by omega) fun nv F s1 k1 on fn => ?_
      rw [(on.rel (ok_str w0)).len]
      generalize namesU (namesOf (a.getD zeroT) ++ namesOf (b.getD zeroT)) = L at *
      generalize hW : (fun nm => covP n ms (ps ++ [nm]) (kidT (a.getD zeroT) nm) (kidT (b.getD zeroT) nm)) = W at hR
      refine loop_rule (m := L.length) (fun c l st => ∃ j : Nat, c + j = L.length ∧ Keeps s st ∧ OStrs w0 st F nv L ∧ (L.take j).all W = true ∧
          l = [v, p, q, mv, .bool false, nv, .int .i64 (L.length : Nat), .int .i64 (j : Nat)]) ?_
        ⟨0, by omega, k1, on, by simp, rfl⟩
      rintro c l st L' ⟨j, hcj, ks, hon, hal, rfl⟩ hL'
      simp only [vget, List.getD_cons_zero, List.getD_cons_succ]
      have onr := hon.rel (ok_str w0)
      rw [pBin_lt, pIf_d]
      refine ⟨fun hj => ?_, fun hj => ?_⟩
      · have hnm := List.getElem?_eq_getElem (show j < L.length by omega)
        generalize L[j]'(by omega) = nm at hnm
        have hmem := hLm nm (List.mem_of_getElem? hnm)
        have hsz5 : nm.size ≤ 5 := by
          rcases hmem with h | h
          · exact name_short hx.1 h
          · exact name_short hy.1 h
        refine RSl.at1 onr hnm fun g hg hgs => ?_
        rw [hg]
        refine below_path (hv.mono (k0.trans ks).le fun _ _ h => h) (by omega) (by omega) fun pv PF s4 k4 op fp => ?_
        have K4 := ks.trans k4
        refine impl_kid (hpa.mono K4.le) (short_wf _ _ hx.1) fun qa hqa => ?_
        refine impl_kid (hpb.mono K4.le) (short_wf _ _ hy.1) fun qb hqb => ?_
        have hne' : ¬ (kidT (a.getD zeroT) nm = none ∧ kidT (b.getD zeroT) nm = none) := fun h => by
          rcases hmem with hm | hm
          · exact kid_there hx.1 hm h.1
          · exact kid_there hy.1 hm h.2
        refine ih (op.rel (ok_str w0)) (hm.mono (k0.trans K4).le fun _ _ => mono_mk (k0.trans K4).le) hqa hqb (kid_fineT hx nm) (kid_fineT hy nm) hne'
          (by rw [List.length_append, sumS_snoc]; simp only [List.length_cons, List.length_nil]; omega) fun s5 k5 => ?_
        have hW1 : covP n ms (ps ++ [nm]) (kidT (a.getD zeroT) nm) (kidT (b.getD zeroT) nm) = W nm := by rw [← hW]
        rw [hW1, pUn_not, pIf_b]
        have K5 := K4.trans k5
        refine ⟨fun hb => ?_, fun hb => ?_⟩
        · have hb' : W nm = false := by simpa using hb
          have := hR s5 (k0.trans K5)
          rw [all_bad hnm hb'] at this
          exact this
        · have hb' : W nm = true := by simpa using hb
          rw [pBin_add (by omega)]
          have kk := k4.trans k5
          exact hL' _ _ (c - 1) (by omega) ⟨j + 1, by omega, K5, hon.frame (ok_str w0) (kk.but_at fun i hi => (hon.dom (ok_str w0) i hi).2), by rw [all_take hnm, hal, hb']; rfl, by simp⟩
      · have e : j = L.length := by omega
        subst e
        rw [List.take_length] at hal
        have := hR st (k0.trans ks)
        rw [hal] at this
        exact this
    have TAIL : (!diffB a b || markedB ms ps) = true → ∀ s : Vw, Keeps σ s → VIT w0 v p q mv s R := by
      intro hd s k0
      unfold VIT
      rw [pVal_5 rfl rfl rfl rfl rfl]
      intro b1 hb1 hb2
      have kb : Keeps s (s.put b1 ⟨t_impl_Tree, [.bool false, .int .i64 0, .string ⟨#[]⟩, .slice none 0 0, .slice none 0 0], 5, (0, 0)⟩) := Keeps.put hb2
      have pz := PT.new (ety := t_impl_Tree) (c := 5) (RT_zero n (Av.get w0 s)) hb1 hb2
      have K := k0.trans kb
      cases a with
      | none =>
        obtain rfl : p = .pointer none := ha
        rw [pBin_nil ptr_tree, pIf_b]
        refine ⟨fun _ => ?_, fun h => by cases h⟩
        cases b with
        | none => exact absurd ⟨rfl, rfl⟩ hne
        | some y =>
          have hb' := hb
          obtain ⟨bd, es', rfl, _⟩ := hb'
          have hb : PT (n + 1) (Av.get w0 σ) (.pointer (some bd)) y := hb
          rw [pBin_nil ptr_tree, pIf_b]
          exact ⟨fun h => (by cases h), fun _ => LOOP hd _ _ _ K pz (hb.mono K.le)⟩
      | some x =>
        have ha' := ha
        obtain ⟨ad, es, rfl, _⟩ := ha'
        have ha : PT (n + 1) (Av.get w0 σ) (.pointer (some ad)) x := ha
        rw [pBin_nil ptr_tree, pIf_b]
        refine ⟨fun h => (by cases h), fun _ => ?_⟩
        cases b with
        | none =>
          obtain rfl : q = .pointer none := hb
          rw [pBin_nil ptr_tree, pIf_b]
          exact ⟨fun _ => LOOP hd _ _ _ K (ha.mono K.le) pz, fun h => by cases h⟩
        | some y =>
          have hb' := hb
          obtain ⟨bd, es', rfl, _⟩ := hb'
          have hb : PT (n + 1) (Av.get w0 σ) (.pointer (some bd)) y := hb
          rw [pBin_nil ptr_tree, pIf_b]
          exact ⟨fun h => (by cases h), fun _ => LOOP hd _ _ _ K (ha.mono K.le) (hb.mono K.le)⟩
    have DIFF : diffB a b = true → AC Try.prog w0 n_impl_marked [mv, v] σ (fun v18 s19 => pUn UnOp.not v18 (fun v20 => pIf v20 (R (.bool false) s19) (VIT w0 v p q mv s19 R))) := by
      intro hd
      refine impl_marked hm hv fun s k => ?_
      rw [pUn_not, pIf_b]
      refine ⟨fun hmk => ?_, fun hmk => ?_⟩
      · have hmk' : markedB ms ps = false := by simpa using hmk
        have := hR s k
        rw [hcov, hd, hmk'] at this
        exact this
      · have hmk' : markedB ms ps = true := by simpa using hmk
        exact TAIL (by rw [hmk']; simp) s k
    have NDIFF : ∀ c : Bool, c = false → diffB a b = true → pUn UnOp.not (.bool c) (fun z => pIf z (AC Try.prog w0 n_impl_marked [mv, v] σ (fun v18 s19 => pUn UnOp.not v18 (fun v20 => pIf v20 (R (.bool false) s19) (VIT w0 v p q mv s19 R)))) (VIT w0 v p q mv σ R)) := by
      intro c hc hd
      subst hc
      rw [pUn_not, pIf_b]
      exact ⟨fun _ => DIFF hd, fun h => by cases h⟩
    cases a with
    | none =>
      obtain rfl : p = .pointer none := ha
      rw [pBin_nnil ptr_tree, pIf_b]
      exact ⟨fun h => (by cases h), fun _ => NDIFF _ rfl rfl⟩
    | some x =>
      have ha' := ha
      obtain ⟨ad, es, rfl, _⟩ := ha'
      have ha : PT (n + 1) (Av.get w0 σ) (.pointer (some ad)) x := ha
      rw [pBin_nnil ptr_tree, pIf_b]
      refine ⟨fun _ => ?_, fun h => by cases h⟩
      cases b with
      | none =>
        obtain rfl : q = .pointer none := hb
        rw [pBin_nnil ptr_tree, pIf_b]
        exact ⟨fun h => (by cases h), fun _ => NDIFF _ rfl rfl⟩
      | some y =>
        have hb' := hb
        obtain ⟨bd, es', rfl, _⟩ := hb'
        have hb : PT (n + 1) (Av.get w0 σ) (.pointer (some bd)) y := hb
        rw [pBin_nnil ptr_tree, pIf_b]
        refine ⟨fun _ => ?_, fun h => by cases h⟩
        have hdf : diffB (some x) (some y) = !(decide (isDir x = isDir y) && (decide (modeOf x = modeOf y) && decide (dataOf x = dataOf y))) := rfl
        refine PT.ld ha 0 (by omega) fun es1 g1 he1 hg1 => ?_
        obtain ⟨u1, w1, rfl, _⟩ := he1.cells
        simp only [List.getElem?_cons_zero, Option.some.injEq] at hg1
        refine PT.ld hb 0 (by omega) fun es2 g2 he2 hg2 => ?_
        obtain ⟨u2, w2, rfl, _⟩ := he2.cells
        simp only [List.getElem?_cons_zero, Option.some.injEq] at hg2
        have eb : ∀ K : Value → Prop, pBin Try.prog 4 .eql (.bool (isDir x)) (.bool (isDir y)) K ↔ K (.bool (isDir x == isDir y)) := fun K => pBin_b (by kernel_rfl) rfl
        rw [← hg1, ← hg2, eb, pIf_b]
        refine ⟨fun hd => ?_, fun hd => NDIFF _ rfl ?_⟩
        · have hd' : isDir x = isDir y := by simpa using hd
          refine PT.ld ha 1 (by omega) fun es1 g1 he1 hg1 => ?_
          obtain ⟨u1, w1, rfl, _⟩ := he1.cells
          simp only [List.getElem?_cons_zero, List.getElem?_cons_succ, Option.some.injEq] at hg1
          refine PT.ld hb 1 (by omega) fun es2 g2 he2 hg2 => ?_
          obtain ⟨u2, w2, rfl, _⟩ := he2.cells
          simp only [List.getElem?_cons_zero, List.getElem?_cons_succ, Option.some.injEq] at hg2
          rw [← hg1, ← hg2, pBin_eq, pIf_d]
          refine ⟨fun hmo => ?_, fun hmo => NDIFF _ rfl ?_⟩
          · refine PT.ld ha 2 (by omega) fun es1 g1 he1 hg1 => ?_
            obtain ⟨u1, w1, rfl, _⟩ := he1.cells
            simp only [List.getElem?_cons_zero, List.getElem?_cons_succ, Option.some.injEq] at hg1
            refine PT.ld hb 2 (by omega) fun es2 g2 he2 hg2 => ?_
            obtain ⟨u2, w2, rfl, _⟩ := he2.cells
            simp only [List.getElem?_cons_zero, List.getElem?_cons_succ, Option.some.injEq] at hg2
            rw [← hg1, ← hg2, pBin_seq, pUn_not, pIf_b]
            refine ⟨fun hda => DIFF ?_, fun hda => TAIL ?_ σ (Keeps.refl _)⟩
            · have : ¬ dataOf x = dataOf y := by simpa using hda
              rw [hdf, decide_eq_false this]; simp
            · have : dataOf x = dataOf y := by simpa using hda
              rw [hdf, decide_eq_true hd', decide_eq_true hmo, decide_eq_true this]; rfl
          · rw [hdf, decide_eq_false hmo]; simp
        · have : ¬ isDir x = isDir y := by simpa using hd
          rw [hdf, decide_eq_false this]; rfl
theorem spec_TrailCovers {n m : Nat} {es es' : List Value} {v : Value} {x y : Tr} {ms : List Mk} (h : RT n (Av.get w0 σ) es x) (h' : RT m (Av.get w0 σ) es' y) (hv : RSl 2 RMk (Av.get w0 σ) v ms) (hb : cntT n x ≤ 1000000000000) (hb' : cntT m y ≤ 1000000000000) {R : Value → Vw → Prop}
    (hR : ∀ s, Keeps σ s → R (.bool (coversX n m x y ms)) s) : AC Try.prog w0 n_spec_TrailCovers [.agg ⟨es⟩, .agg ⟨es'⟩, v] σ R := by
  have h0 := h
  have h0' := h'
  obtain ⟨u, w, rfl, _, _, _, _, hp⟩ := h.cells
  obtain ⟨u', w', rfl, _, _, _, _, hp'⟩ := h'.cells
  refine ac_spec_TrailCovers ?_
  unfold vc_spec_TrailCovers
  rw [hp, hp']
  simp only [cellOf_agg, List.getD_cons_zero, List.getD_cons_succ]
  have R0 := hR σ (Keeps.refl _)
  refine spec_TreeOk h0 hb (pIf_b.2 ⟨fun hok => ?_, fun hno => by rw [coversX, hno] at R0; exact R0⟩)
  refine spec_TreeOk h0' hb' (pIf_b.2 ⟨fun hok' => ?_, fun hno => by rw [coversX, hok, hno] at R0; exact R0⟩)
  refine spec_TrailOk hv (pIf_b.2 ⟨fun hmk => ?_, fun hno => by rw [coversX, hok, hok', hno] at R0; exact R0⟩)
  obtain ⟨d1, x1, c1⟩ := ok_fineT hok
  obtain ⟨d2, x2, c2⟩ := ok_fineT hok'
  intro b hb1 hb2
  have k1 : Keeps σ (σ.put b ⟨t_string, [], 0, (0, 0)⟩) := Keeps.put hb2
  have hpp : RSl 1 RS (Av.get w0 (σ.put b ⟨t_string, [], 0, (0, 0)⟩)) (.slice (some ⟨b, 0, none⟩) 0 0) [] := (OAcc.new (w0 := w0) (σ := σ) (ety := t_string) (n := 1) (O := OStr) hb1).osl.rel (ok_str w0)
  refine spec_Covers 5 (a := some x) (b := some y) hpp (hv.mono k1.le fun _ _ => mono_mk k1.le) (mono_rt 5 _ _ _ _ k1.le (d1 _ _ h0)) (mono_rt 5 _ _ _ _ k1.le (d2 _ _ h0')) (fun z hz => by cases hz; exact x1) (fun z hz => by cases hz; exact x2) (fun h => by cases h.1) (by simp [sumS]) fun s k => ?_
  have := hR s (k1.trans k)
  rw [coversX, hok, hok', hmk] at this
  exact this

theorem impl_TrailCovers {n m : Nat} {es es' : List Value} {v : Value} {x y : Tr} {ms : List Mk} (h : RT n (Av.get w0 σ) es x) (h' : RT m (Av.get w0 σ) es' y) (hv : RSl 2 RMk (Av.get w0 σ) v ms) (hb : cntT n x ≤ 1000000000000) (hb' : cntT m y ≤ 1000000000000) {R : Value → Vw → Prop}
    (hR : ∀ s, Keeps σ s → R (.bool (coversX n m x y ms)) s) : AC Try.prog w0 n_impl_TrailCovers [.agg ⟨es⟩, .agg ⟨es'⟩, v] σ R := by
  have h0 := h
  have h0' := h'
  obtain ⟨e0, e1, e2, e3, e4, rfl, _, hpv⟩ := RT.five h
  obtain ⟨e0', e1', e2', e3', e4', rfl, _, hpv'⟩ := RT.five h'
  refine ac_impl_TrailCovers ?_
  unfold vc_impl_TrailCovers
  rw [hpv]
  simp only [cellOf_agg, List.getD_cons_zero, List.getD_cons_succ]
  intro a ha1 ha2
  have k1 : Keeps σ (σ.put a ⟨t_impl_Tree, [e0, e1, e2, e3, e4], 5, (0, 0)⟩) := Keeps.put ha2
  have p1 := PT.new (ety := t_impl_Tree) (c := 5) h0 ha1 ha2
  rw [hpv']
  intro b hb1 hb2
  have k2 := Keeps.put (r := ⟨t_impl_Tree, [e0', e1', e2', e3', e4'], 5, (0, 0)⟩) hb2
  have p2 := PT.new (ety := t_impl_Tree) (c := 5) (mono_rt _ _ _ _ _ k1.le h0') hb1 hb2
  have p1' := p1.mono k2.le
  have K2 := k1.trans k2
  generalize hs : Vw.put _ b _ = s at k2 p2 p1' K2
  clear hs
  have R0 := hR s K2
  refine PT.load p1' fun g hg => ?_
  refine impl_TreeOk hg hb (pIf_b.2 ⟨fun hok => ?_, fun hno => by rw [coversX, hno] at R0; exact R0⟩)
  refine PT.load p2 fun g' hg' => ?_
  refine impl_TreeOk hg' hb' (pIf_b.2 ⟨fun hok' => ?_, fun hno => by rw [coversX, hok, hno] at R0; exact R0⟩)
  have hvs := hv.mono K2.le fun _ _ => mono_mk K2.le
  refine impl_TrailOk hvs (pIf_b.2 ⟨fun hmk => ?_, fun hno => by rw [coversX, hok, hok', hno] at R0; exact R0⟩)
  obtain ⟨d1, x1, c1⟩ := ok_fineT hok
  obtain ⟨d2, x2, c2⟩ := ok_fineT hok'
  refine impl_covers 5 (ps := []) (nil_in (G := []) s (KeepsBut.refl _ _)) hvs (a := some x) (b := some y) (PT_of d1 p1') (PT_of d2 p2) (fun z hz => by cases hz; exact x1) (fun z hz => by cases hz; exact x2) (fun h => by cases h.1) (by simp [sumS]) fun s' k => ?_
  have := hR s' (K2.trans k)
  rw [coversX, hok, hok', hmk] at this
  exact this

theorem law_TrailCovers {n m : Nat} {es es' : List Value} {v : Value} {x y : Tr} {ms : List Mk} (h : RT n (Av.get w0 σ) es x) (h' : RT m (Av.get w0 σ) es' y) (hv : RSl 2 RMk (Av.get w0 σ) v ms) {R : Value → Vw → Prop} (hR : ∀ σ', R (.bool true) σ') :
    AC Try.prog w0 n_laws_FnExactTrailCovers [.agg ⟨es⟩, .agg ⟨es'⟩, v] σ R := by
  have h0 := h
  have h0' := h'
  obtain ⟨e0, e1, e2, e3, e4, rfl, _, hpv⟩ := RT.five h
  obtain ⟨e0', e1', e2', e3', e4', rfl, _, hpv'⟩ := RT.five h'
  refine ac_laws_FnExactTrailCovers ?_
  unfold vc_laws_FnExactTrailCovers
  rw [hpv, hpv']
  simp only [cellOf_agg, List.getD_cons_zero, List.getD_cons_succ]
  refine szTree n h0 (by omega) ?_
  rw [pBin_lt, pIf_d]
  refine ⟨fun _ => hR _, fun hlow => ?_⟩
  rw [Av.left_neg] at hlow
  rw [Av.left_in (by omega)]
  refine szTree m h0' (by omega) ?_
  rw [pBin_lt, pIf_d]
  refine ⟨fun _ => hR _, fun hlow' => ?_⟩
  rw [Av.left_neg] at hlow'
  rw [Av.left_in (by omega)]
  refine szMarkS hv (by omega) ?_
  rw [pBin_lt, pIf_d]
  refine ⟨fun _ => hR _, fun hb2 => ?_⟩
  rw [Av.left_neg] at hb2
  have hsz : szT n x ≤ 1048576 := by omega
  have hsz' : szT m y ≤ 1048576 := by omega
  have hfit := fit_of n x (by omega)
  have hfit' := fit_of m y (by omega)
  have hcnt : cntT n x ≤ 1000000000000 := Nat.le_trans (cnt_le n x) (by omega)
  have hcnt' : cntT m y ≤ 1000000000000 := Nat.le_trans (cnt_le m y) (by omega)
  have hlen : ms.length ≤ 1000000000000 := by omega
  have heach : ∀ x, x ∈ ms → x.1.length ≤ 1000000000000 := fun x hx => by
    have := sumBy_mem (f := szMk) hx
    unfold szMk at this hb2
    omega
  have ok := ok_rt w0 n
  have ok' := ok_rt w0 m
  have okm := ok_mk w0
  refine toTree n h0 hfit fun es1 F1 s1 k1 o1 f1 => ?_
  refine toTree m (mono_rt m _ _ _ _ k1.le h0') hfit' fun es1' F1' s2 k2 o1' f1' => ?_
  have K2 := k1.trans k2
  refine toMarkS (hv.mono K2.le fun _ _ => mono_mk K2.le) hlen heach fun v1 G1 s3 k3 p1 g1 => ?_
  have K3 := K2.trans k3
  refine spec_TrailCovers (mono_rt n _ _ _ _ (k2.trans k3).le (ok.rel _ _ _ _ o1)) (mono_rt m _ _ _ _ k3.le (ok'.rel _ _ _ _ o1')) (p1.rel okm) hcnt hcnt' fun s4 k4 => ?_
  have K4 := K3.trans k4
  refine toTree n (mono_rt n _ _ _ _ K4.le h0) hfit fun es2 F2 s5 k5 o2 f2 => ?_
  have r2 := ok.rel _ _ _ _ o2
  obtain ⟨a2, b2, c2, d2, g2, rfl, q2, hp2⟩ := RT.five r2
  rw [hp2]
  simp only [cellOf_agg, List.getD_cons_zero, List.getD_cons_succ]
  have K5 := K4.trans k5
  refine toTree m (mono_rt m _ _ _ _ K5.le h0') hfit' fun es2' F2' s6 k6 o2' f2' => ?_
  have r2' := ok'.rel _ _ _ _ o2'
  obtain ⟨a2', b2', c2', d2', g2', rfl, q2', hp2'⟩ := RT.five r2'
  rw [hp2']
  simp only [cellOf_agg, List.getD_cons_zero, List.getD_cons_succ]
  have K6 := K5.trans k6
  refine toMarkS (hv.mono K6.le fun _ _ => mono_mk K6.le) hlen heach fun v2 G2 s7 k7 p2 g2 => ?_
  have K7 := K6.trans k7
  refine impl_TrailCovers (mono_rt n _ _ _ _ (k6.trans k7).le r2) (mono_rt m _ _ _ _ k7.le r2') (p2.rel okm) hcnt hcnt' fun s8 k8 => ?_
  have K8 := K7.trans k8
  have ebb : ∀ (p q : Bool) (K : Value → Prop), pBin Try.prog 4 .neq (.bool p) (.bool q) K ↔ K (.bool !(p == q)) := fun p q K => pBin_b (by kernel_rfl) rfl
  rw [ebb, pIf_b]
  refine ⟨fun h => by simp at h, fun _ => ?_⟩
  refine toTree n (mono_rt n _ _ _ _ K8.le h0) hfit fun es3 F3 s9 k9 o3 f3 => ?_
  refine eqTree n (mono_rt n _ _ _ _ (((k6.trans k7).trans k8).trans k9).le r2) (ok.rel _ _ _ _ o3) ?_
  rw [pUn_not, pIf_b]
  refine ⟨fun h => by simp at h, fun _ => ?_⟩
  have K9 := K8.trans k9
  refine toTree m (mono_rt m _ _ _ _ K9.le h0') hfit' fun es3' F3' s10 k10 o3' f3' => ?_
  refine eqTree m (mono_rt m _ _ _ _ (((k7.trans k8).trans k9).trans k10).le r2') (ok'.rel _ _ _ _ o3') ?_
  rw [pUn_not, pIf_b]
  refine ⟨fun h => by simp at h, fun _ => ?_⟩
  have K10 := K9.trans k10
  refine toMarkS (hv.mono K10.le fun _ _ => mono_mk K10.le) hlen heach fun v3 G3 s11 k11 p3 g3 => ?_
  have kk := ((k8.trans k9).trans k10).trans k11
  refine eqMarkS ((p2.rel okm).mono kk.le fun _ _ => mono_mk kk.le) (p3.rel okm) ?_
  rw [pUn_not, pIf_b]
  exact ⟨fun h => by simp at h, fun _ => hR _⟩
end
end Go.Proofs.Ytkbhjejalkbogaa

/- The law FnExactTrailCovers holds: it returns true, and the input reads as it did. No condition. -/
namespace Go.Proofs.Ytkbhjejalkbogaa.fnExactTrailCovers
open Go.ChangeShapes Go.WideShapes Go.ChangeAt Go.RowKit Go.Av
set_option linter.unusedVariables false
set_option linter.unusedSimpArgs false
theorem own : ownKnob Try.prog.godebug = none := by kernel_rfl
theorem laidOut : laidOutB Try.prog = true := by kernel_rfl
set_option maxRecDepth 100000 in
theorem lifted (os : Os) (started : os.Started) (H : Type) (enc : TypeId × Value → H) :
    ReturnsInHanded {} Try.checked os 5 .any (Rows.fnExactTrailCoversSpec.pre6 enc Try.prog Try.f5 Rows.fnExactTrailCoversRow.domain false) (Rows.fnExactTrailCoversSpec.post enc Try.prog Try.f5 false true false false) := by
  refine returnsInHanded_of_change_sized (C := Try.checked) own started (by kernel_rfl) Try.func5
    (ChangeSpec.witness6 (enc := enc) (C := Try.checked) false ⟨#[], #[.agg #[.bool false, .int .i64 0, .string ⟨#[]⟩, .slice none 0 0, .slice none 0 0], .agg #[.bool false, .int .i64 0, .string ⟨#[]⟩, .slice none 0 0, .slice none 0 0], .slice none 0 0], []⟩ 8 (by kernel_rfl) (by kernel_rfl) (by kernel_rfl) (by kernel_rfl)) ?_
  intro W base args ds gs before hval0 hW hcnd hsz0 _
  have hval : ∀ (j : Nat) t v, Try.f5.params[j]? = some t → args[j]? = some v → Value.okWide Try.prog W .any base t v := hval0
  have hW' := hW
  obtain ⟨p, q, hA0, hV, rfl, hfz, hnd⟩ := hW
  have hA : DataW.TrodAll enc Try.prog W 0 (fun _ => true) true Try.f5.params.toList args.toList ds p := hA0
  rw [Try.params5] at hA hval
  obtain ⟨v0, v1, v2, d0, d1, d2, p0, p1, p2, rfl, rfl, hpp, h0, h1, h2⟩ := trodAll_three hA
  obtain ⟨rfl, rfl⟩ := trodVars_none hV
  have hT0 : Try.prog.underlying 46 = some (.struct (fsOf Try.prog 46)) := by kernel_rfl
  obtain ⟨c0, rfl, hc0⟩ := okWide_struct hT0 (hval 0 46 v0 rfl rfl)
  have hT1 : Try.prog.underlying 46 = some (.struct (fsOf Try.prog 46)) := by kernel_rfl
  obtain ⟨c1, rfl, hc1⟩ := okWide_struct hT1 (hval 1 46 v1 rfl rfl)
  obtain ⟨A2, len2, cap2, rfl⟩ := okWide_slice (t := 47) (e := 79) (by kernel_rfl) (hval 2 47 v2 rfl rfl)
  have h0k := h0
  obtain ⟨fuel0, hf0⟩ := h0
  have h1k := h1
  obtain ⟨fuel1, hf1⟩ := h1
  have h2k := h2
  obtain ⟨fuel2, hf2⟩ := h2
  clear hA0 hval0 hsz0
  simp only [List.append_nil] at hW'
  have hlt : ∀ x ∈ p, x.block < W.heap.size := fun x hx => by simpa using hW'.lt x hx
  have hargs0 : ∀ (W' : World), Below W.heap.size W W' → DataW.Trod enc Try.prog W' 0 (fun b => decide (b < W.heap.size)) true 46 (.agg c0) d0 p0 :=
    fun W' hn => Below.trod laidOut (by kernel_rfl) (of_decide_eq_true (by kernel_rfl)) h0k hn (fun x hx => hlt x (by rw [hpp]; simp [hx]))
  have hargs1 : ∀ (W' : World), Below W.heap.size W W' → DataW.Trod enc Try.prog W' 0 (fun b => decide (b < W.heap.size)) true 46 (.agg c1) d1 p1 :=
    fun W' hn => Below.trod laidOut (by kernel_rfl) (of_decide_eq_true (by kernel_rfl)) h1k hn (fun x hx => hlt x (by rw [hpp]; simp [hx]))
  have hargs2 : ∀ (W' : World), Below W.heap.size W W' → DataW.Trod enc Try.prog W' 0 (fun b => decide (b < W.heap.size)) true 47 (.slice A2 len2 cap2) d2 p2 :=
    fun W' hn => Below.trod laidOut (by kernel_rfl) (of_decide_eq_true (by kernel_rfl)) h2k hn (fun x hx => hlt x (by rw [hpp]; simp [hx]))
  have hl0 : c0.toList.length = 5 := by rw [Array.length_toList, hc0]; kernel_rfl
  obtain ⟨x0, r0⟩ := open_tree fuel0 c0.toList _ hf0 hl0
  have hl1 : c1.toList.length = 5 := by rw [Array.length_toList, hc1]; kernel_rfl
  obtain ⟨x1, r1⟩ := open_tree fuel1 c1.toList _ hf1 hl1
  obtain ⟨u2, x2, hu2, r2⟩ := open_rsl (t := t_s_laws_Mark) (e := t_laws_Mark) (by kernel_rfl) (by kernel_rfl) open_mk hf2
  have hu2' : u2 = .slice A2 len2 cap2 := by
    have : [Value.slice A2 len2 cap2] = [u2] := hu2
    cases this; rfl
  subst hu2'
  refine ((law_TrailCovers (R := fun v _ => v = .bool true) r0 r1 r2 (by intros; rfl)).calls).mono fun e W' ⟨v, σ', he, hv, bel⟩ => ?_
  subst he hv
  have hW'' := hW'
  rw [hpp] at hW''
  simp only [List.append_assoc] at hW''
  exact ⟨_, rfl, _, _, _, [], _, [], hW'', trodAll_mk1 (shut_bool Try.underlying4 _), trodAll_mk3 (hargs0 W' bel) (hargs1 W' bel) (hargs2 W' bel), rfl, bel.frame _, fun h => by cases h⟩
theorem over : Rows.fnExactTrailCoversRow.holds Try.pinned (OpenSpec.ofChange Rows.fnExactTrailCoversSpec) :=
  OpenClaim.holds_of_wide 5 Try.f5 rfl rfl rfl rfl rfl rfl rfl ⟨rfl, rfl, rfl, rfl, rfl⟩ rfl rfl rfl rfl rfl (by kernel_rfl) Try.func5 (by kernel_rfl)
    (of_decide_eq_true (by kernel_rfl)) (by unfold Func.isWrapper; first | (rw [if_pos (by decide +kernel)]; kernel_rfl) | (rw [if_neg (by decide +kernel)]; exact ⟨rfl, rfl⟩))
    (fun os started H enc _ => lifted os started H enc)
theorem proved : Rows.FnExactTrailCoversSaid := over
end Go.Proofs.Ytkbhjejalkbogaa.fnExactTrailCovers
namespace Go.Proofs.Ytkbhjejalkbogaa
/-- The row, under a short name, for the claim. -/
theorem fnExactTrailCovers_holds : Rows.FnExactTrailCoversSaid := fnExactTrailCovers.proved
end Go.Proofs.Ytkbhjejalkbogaa
