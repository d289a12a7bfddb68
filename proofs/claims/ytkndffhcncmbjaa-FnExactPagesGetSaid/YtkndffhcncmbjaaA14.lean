/- The abstract layer, part 14: a function by its body. -/
import Derived.Test.YtkndffhcncmbjaaA13
set_option linter.unusedVariables false
set_option linter.unusedSimpArgs false
namespace Go.Av
open Go Go.RowKit

section
variable (P : Program)
def resL (st : St) : List ResultVar → (List Value → Prop) → Prop
  | [], A => A []
  | .tmp t :: r, A => match toV (st.tmps.getD t .unk) with
    | some v => resL st r fun vs => A (v :: vs)
    | none => False
  | .cell t T :: r, A => match st.tmps.getD t .unk, tyOf P T with
    | .lp k j, some (g, n) => match st.bx k with
      | some cs => match Nat.ble (j + n) cs.length with
        | true => resL st r fun vs => A (mkVal g (expl (fun i => cs.getD i undef) j n) :: vs)
        | false => False
      | none => False
    | _, _ => False

def oneOf : List Value → Value
  | [v] => v
  | vs => .tuple ⟨vs⟩

def retK (rs : List ResultVar) (R : Value → Vw → Prop) : AX → St → Vw → Prop
  | .normal, st, σ => resL P st rs fun vs => R (oneOf vs) σ
  | .ret, st, σ => resL P st rs fun vs => R (oneOf vs) σ
  | .exit _, _, _ => False
end

def entry (n : Nat) (args : List Value) : St := ⟨args.map .val ++ List.replicate (n - args.length) .unk, fun _ => none⟩

section
variable {P : Program} {w0 : World} {σe : Vw} {we : World} {fz : Nat} {β : Nat → Nat} {st : St} {σ : Vw} {a : Act} {w : World}

def resRun (tmps : Array Value) (r : ResultVar) : Sem Value :=
  match r with
  | .tmp t => pure (tmps.getD t undef)
  | .cell b t => do loadVar t (← asAddr (tmps.getD b undef))

theorem res_sound (hs : Sim w0 σe we fz β st σ a w) : ∀ (rs : List ResultVar) (A : List Value → Prop), resL P st rs A → ∃ vs, A vs ∧ vs.length = rs.length ∧
    (rs.mapM (resRun a.tmps)).run P w = .ok vs w
  | [], A, h => ⟨[], h, rfl, by simp⟩
  | .tmp t :: r, A, h => by
    simp only [resL] at h
    split at h
    · rename_i v hv
      obtain ⟨vs, hA, hl, hr⟩ := res_sound hs r _ h
      refine ⟨v :: vs, hA, by simp [hl], ?_⟩
      have hv' : a.tmps.getD t undef = v := hs.toV (x := .tmp t) hv
      simp only [List.mapM_cons, resRun, Sem.run_bind, Sem.run_pure, Result.andThen_ok, hr, hv']
    · exact h.elim
  | .cell t T :: r, A, h => by
    simp only [resL] at h
    have hx := hs.tm t
    split at h
    · rename_i k j g n hev ht
      rw [hev] at hx
      split at h
      · rename_i cs hcs
        split at h
        · rename_i hb
          have hb := Nat.le_of_ble_eq_true hb
          obtain ⟨T', cur, hcur, rfl⟩ := (hs.box k _ hcs).cells
          obtain ⟨vs, hA, hl, hr⟩ := res_sound hs r _ h
          refine ⟨_ :: vs, hA, by simp [hl], ?_⟩
          have hl := run_loadVar ht w ⟨β k, j, none⟩ (fun i => cur.toList.getD (j + i) undef) (fun i hi => by
            rw [show (⟨β k, j, none⟩ : Addr).add i = ⟨β k, j + i, none⟩ by unfold Addr.add; split <;> simp_all]
            unfold World.cell?
            rw [hcur]
            have : j + i < cur.size := by have := hb; simp at this; omega
            simp [this])
          have he : ∀ m i, expl (fun i => cur.toList.getD (j + i) undef) i m = expl (fun i => cur.toList.getD i undef) (j + i) m := by
            intro m
            induction m with
            | zero => intro i; rfl
            | succ m ih => intro i; simp only [expl]; rw [ih (i + 1)]; rfl
          rw [he n 0, Nat.add_zero] at hl
          simp only [List.mapM_cons, resRun, Sem.run_bind, Sem.run_pure, Result.andThen_ok, hr, hx.2, asAddr, hl]
        · exact h.elim
      · exact h.elim
    · exact h.elim

theorem results_sound {fn : Func} {R : Value → Vw → Prop} (hs : Sim w0 σe we fz β st σ a w) (h : resL P st fn.results.toList fun vs => R (oneOf vs) σ) : ∃ v, (results fn a.tmps).run P w = .ok v w ∧ R v σ := by
  obtain ⟨vs, hR, hl, hr⟩ := res_sound hs _ _ h
  refine ⟨oneOf vs, ?_, hR⟩
  have hre : results fn a.tmps = (do
      let vs ← fn.results.mapM (resRun a.tmps)
      pure (if h : vs.size = 1 then vs[0] else .tuple vs)) := by
    unfold results
    congr 2
  rw [hre, Array.mapM_eq_mapM_toList]
  simp only [Sem.run_bind, map_eq_pure_bind, hr, Result.andThen_ok, Sem.run_pure]
  match vs with
  | [] => rfl
  | [v] => rfl
  | _ :: _ :: _ => rfl

/-- A function does what its body is owed. -/
theorem ac_rule {fn : Func} {c : Code} {f : FuncId} (kp : Nat → Keep) (esc : Nat → Bool) (hf : P.funcs[f]? = some fn) (hb : fn.body = some c) (hname : (fn.name == "runtime.NumGoroutine") = false) {args : List Value} {R : Value → Vw → Prop}
    (h : den P w0 kp esc c (entry fn.ntmps args) σ (retK P fn.results.toList R)) : AC P w0 f args σ R := by
  refine ⟨⟨fn, hf, hname, by simp [hb]⟩, fun w hw => ?_⟩
  refine calls_of_wp hf hb ?_
  have hs : Sim w0 σ w (args.length + (fn.ntmps - args.length)) (fun _ => 0) (entry fn.ntmps args) σ { tmps := args.toArray ++ Array.replicate (fn.ntmps - args.toArray.size) undef, defers := [] } w := by
    refine ⟨by simp [entry], fun i => ?_, rfl, Aft.refl hw, fun k cs hk => (by cases hk), fun k k' hk => absurd rfl hk, by simp⟩
    simp only [entry]
    by_cases hi : i < args.length
    · rw [List.getD_eq_getElem?_getD, List.getElem?_append_left (by simpa using hi)]
      rw [Array.getD_eq_getD_getElem?, Array.getElem?_append_left (by simpa using hi)]
      simp [hi, VX]
    · rw [List.getD_eq_getElem?_getD, List.getElem?_append_right (by simpa using Nat.le_of_not_lt hi)]
      simp only [List.getElem?_replicate]
      split <;> exact trivial
  refine wp_mono (den_sound kp esc c _ _ σ _ w _ h hs) ?_
  rintro (_ | i | l | _ | ch | _) a' w' hq
  · obtain ⟨β', st', σ', hK, hs'⟩ := hq
    obtain ⟨v, hv, hR⟩ := results_sound hs' hK
    exact ⟨hs'.dfs, v, hv, v, σ', rfl, hR, hs'.aft⟩
  · obtain ⟨β', st', σ', hK, hs'⟩ := hq
    exact hK.elim
  · exact hq.elim
  · obtain ⟨β', st', σ', hK, hs'⟩ := hq
    obtain ⟨v, hv, hR⟩ := results_sound hs' hK
    exact ⟨hs'.dfs, v, hv, v, σ', rfl, hR, hs'.aft⟩
  · exact hq.elim
  · exact hq.elim
end
end Go.Av
