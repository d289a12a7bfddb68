/- The abstract layer, part 11: the rest of the operations; then all of them. -/
import Derived.Test.YtkndffhcncmbjaaA10
set_option linter.unusedVariables false
set_option linter.unusedSimpArgs false
namespace Go.Av
open Go Go.RowKit

section
variable {P : Program} {w0 : World} {σe : Vw} {we : World} {fz : Nat} {β : Nat → Nat} {st : St} {σ : Vw} {a : Act} {w : World} {esc : Nat → Bool} {gk : List (Nat × Bool)} {K : TV → Eff → Vw → Prop} {next : Act → World → Prop} {Q : Exit → Act → World → Prop} {o : Oper}

theorem convert_sound (hs : Sim w0 σe we fz β st σ a w) {s d : Nat} {x : Operand} (hop : o.op = .convert s d x) (h : denOp P w0 (AC P w0) esc gk o.dst (.convert s d x) st σ K)
    (hn : ∀ x e σ' v w', K x e σ' → Out w0 σe we fz st a x e σ' v w' → next (a.put o.dst v) w') : o.wp P a w next Q := by
  simp only [denOp] at h
  split at h
  · rename_i k1 k v hsu hdu hv
    obtain ⟨k', m, rfl, hK⟩ := h
    refine wp_value (w' := w) (v := .int k (k.wrap m)) ?_ (hn _ _ _ _ _ hK (hs.same rfl))
    simp only [execOp, hop, hs.toV hv, convert, Sem.run_bind, run_underlying hsu, run_underlying hdu, Result.andThen_ok]
    cases k1 <;> simp [Conv.intToInt]
  · rename_i e v hsu hdu hv
    split at h
    · rename_i heu
      rcases h with ⟨n, c, rfl, hK⟩ | ⟨b, off, n, c, xs, rfl, hl, hc, hK⟩
      · refine wp_value (w' := w) ?_ (hn _ _ _ _ _ hK (hs.same rfl))
        simp only [execOp, hop, hs.toV hv, Sem.run_bind, run_convert_bytes_nil w s e hsu heu n c d hdu, Result.andThen_ok, Sem.run_pure]
      · refine wp_value (w' := w) ?_ (hn _ _ _ _ _ hK (hs.same rfl))
        have := run_convert_bytes_arg (P := P) w s e hsu heu b off n c xs hl (fun i hi => hs.sat.get (hc i hi)) d hdu
        simp only [execOp, hop, hs.toV hv, Sem.run_bind, this, Result.andThen_ok, Sem.run_pure]
    · exact h.elim
  · rename_i e v hsu hdu hv
    split at h
    · rename_i heu
      obtain ⟨str, rfl, hK⟩ := h
      have hf := fresh hs.sat
      have hr := run_bytes_of_string (P := P) w s d e str hsu hdu heu
      refine wp_value (w' := _) ?_ (hn _ _ _ _ _ (hK w.heap.size (grownCap w str.size 0 e) hf.1 hf.2 (grownCap_ge w str.size 0 e)) (hs.rows (Aft.drew (w' := w.drew.alloc (.cells (bytesRow str (grownCap w str.size 0 e)) e ((bytesRow str (grownCap w str.size 0 e)).size, (bytesRow str (grownCap w str.size 0 e)).size + 1))) ?_) _))
      · simp only [execOp, hop, hs.toV hv, Sem.run_bind, hr, Result.andThen_ok, Sem.run_pure]
      · have hge := grownCap_ge w str.size 0 e
        generalize grownCap w str.size 0 e = C at hge
        have hsz : (bytesRow str C).size = C := by simp [bytesRow]; omega
        rw [hsz]
        refine ⟨⟨(hs.sat.drew.alloc _).bel, fun b r hb => ?_⟩, by simp, fun b hb _ => Below.heap_alloc w.drew _ b hb, fun b r hb => ?_⟩
        · by_cases eb : b = w.heap.size
          · subst eb
            rw [put_eq] at hb
            cases hb
            refine ⟨hf.1, bytesRow str C, heap_new w.drew _, ?_, hsz, .inl (by simp only; omega)⟩
            simp [bytesRow]
          · rw [put_ne eb] at hb
            exact (hs.sat.drew.alloc _).row b r hb
        · by_cases eb : b = w.heap.size
          · exact .inr (by subst eb; exact Nat.le_refl _)
          · rw [put_ne eb] at hb
            exact .inl (by rw [hb]; simp)
    · exact h.elim
  · exact h.elim

theorem bound_run {x : Option Value} {d : Nat} {l : Int} (h : boundOf d x = some l) : x = none ∧ l = d ∨ ∃ k, x = some (.int k l) := by
  unfold boundOf at h
  split at h
  · cases h; exact .inl ⟨rfl, rfl⟩
  · cases h; exact .inr ⟨_, rfl⟩
  · cases h

theorem bounds_run {isS : Bool} {len cap : Nat} {lo hi : Option Value} {l h : Int} (hl : boundOf 0 lo = some l) (hh : boundOf len hi = some h) (h0 : 0 ≤ l) (h1 : l ≤ h) (h2 : h ≤ cap) :
    (Instr.sliceBounds isS len cap lo hi none).run P w = .ok (l.toNat, h.toNat, cap) w := by
  have e1 : (l.toNat : Int) = l := Int.toNat_of_nonneg h0
  have e2 : (h.toNat : Int) = h := Int.toNat_of_nonneg (by omega)
  rcases bound_run hh with ⟨rfl, rfl⟩ | ⟨k2, rfl⟩ <;> rcases bound_run hl with ⟨rfl, rfl⟩ | ⟨k1, rfl⟩
  · simp [Instr.sliceBounds]
  · have : l ≤ (len : Int) := h1
    simp [Instr.sliceBounds, Instr.sliceBound, asIntOf, h0, this]
  · have hq : 0 ≤ h := by omega
    simp [Instr.sliceBounds, Instr.sliceBound, asIntOf, hq, h2]
  · have hq : 0 ≤ h := by omega
    have hq2 : l ≤ (h.toNat : Int) := by omega
    simp [Instr.sliceBounds, Instr.sliceBound, asIntOf, hq, h2, h0]
    intro hc
    omega

theorem bounds3_run {c l h m : Int} {len cap : Nat} {lo hi mx : Option Value} (hl : boundOf 0 lo = some l) (hi1 : hi.isSome = true) (hr : boundOf len hi = some h) (hm1 : mx.isSome = true) (hm : boundOf cap mx = some m) (h0 : 0 ≤ l) (h1 : l ≤ h) (h2 : h ≤ m) (h3 : m ≤ cap) :
    (Instr.sliceBounds true len cap lo hi mx).run P w = .ok (l.toNat, h.toNat, m.toNat) w := by
  cases hi with
  | none => cases hi1
  | some hv =>
    cases mx with
    | none => cases hm1
    | some mv =>
      obtain ⟨kh, rfl⟩ : ∃ k, hv = .int k h := by cases hv <;> simp_all [boundOf]
      obtain ⟨km, rfl⟩ : ∃ k, mv = .int k m := by cases mv <;> simp_all [boundOf]
      have q1 : (((h.toNat : Nat)) : Int) = h := by omega
      have q2 : (((m.toNat : Nat)) : Int) = m := by omega
      have q3 : 0 ≤ m := by omega
      have q4 : 0 ≤ h := by omega
      have q5 : max m 0 = m := by omega
      have q6 : max h 0 = h := by omega
      cases lo with
      | none =>
        simp only [boundOf, Option.some.injEq] at hl
        subst hl
        simp [Instr.sliceBounds, Instr.sliceBound, asIntOf, q1, q2, q3, q4, q5, q6, h2, h3]
      | some lv =>
        obtain ⟨kl, rfl⟩ : ∃ k, lv = .int k l := by cases lv <;> simp_all [boundOf]
        simp [Instr.sliceBounds, Instr.sliceBound, asIntOf, q1, q2, q3, q4, q5, q6, h0, h1, h2, h3]

theorem slice3_sound (hs : Sim w0 σe we fz β st σ a w) {T : Nat} {x mx : Operand} {lo hi : Option Operand} (hop : o.op = .slice T x lo hi (some mx)) (h : denOp P w0 (AC P w0) esc gk o.dst (.slice T x lo hi (some mx)) st σ K)
    (hn : ∀ x e σ' v w', K x e σ' → Out w0 σe we fz st a x e σ' v w' → next (a.put o.dst v) w') : o.wp P a w next Q := by
  simp only [denOp] at h
  split at h
  · rename_i e v l hh m hu hv hlo hhi hmx
    split at h
    · rename_i g n ht
      obtain ⟨A, len, cap, l', h', m', rfl, hl, hi1, hr, hm1, hm, h0, h1, h2, h3, hK⟩ := h
      obtain ⟨_, t2, _⟩ := tyOf_spec ht w
      have hmx' : (some mx).map a.eval = m := hs.oV hmx
      refine wp_value (w' := w) ?_ (hn _ _ _ _ _ hK (hs.same rfl))
      simp only [execOp, hop, hs.toV hv, hs.oV hlo, hs.oV hhi, hmx', Instr.sliceAt, Instr.slice, Sem.run_bind, run_underlying hu, Result.andThen_ok, bounds3_run (c := 0) hl hi1 hr hm1 hm h0 h1 h2 h3, Sem.run_pure, t2]
    · exact h.elim
  · exact h.elim

theorem slice_sound (hs : Sim w0 σe we fz β st σ a w) {T : Nat} {x : Operand} {lo hi : Option Operand} (hop : o.op = .slice T x lo hi none) (h : denOp P w0 (AC P w0) esc gk o.dst (.slice T x lo hi none) st σ K)
    (hn : ∀ x e σ' v w', K x e σ' → Out w0 σe we fz st a x e σ' v w' → next (a.put o.dst v) w') : o.wp P a w next Q := by
  simp only [denOp] at h
  split at h
  · rename_i v l hh hu hv hlo hhi
    obtain ⟨s, l', h', rfl, hl, hr, h0, h1, h2, hK⟩ := h
    refine wp_value (w' := w) ?_ (hn _ _ _ _ _ hK (hs.same rfl))
    simp only [execOp, hop, hs.toV hv, hs.oV hlo, hs.oV hhi, Option.map_none, Instr.sliceAt, Instr.slice, Sem.run_bind, run_underlying hu, Result.andThen_ok, bounds_run hl hr h0 h1 h2, Sem.run_pure, Option.isSome_none, Bool.false_eq_true, if_false]
  · rename_i e v l hh hu hv hlo hhi
    split at h
    · rename_i g n ht
      obtain ⟨A, len, cap, l', h', rfl, hl, hr, h0, h1, h2, hK⟩ := h
      obtain ⟨_, t2, _⟩ := tyOf_spec ht w
      refine wp_value (w' := w) ?_ (hn _ _ _ _ _ hK (hs.same rfl))
      simp only [execOp, hop, hs.toV hv, hs.oV hlo, hs.oV hhi, Option.map_none, Instr.sliceAt, Instr.slice, Sem.run_bind, run_underlying hu, Result.andThen_ok, bounds_run hl hr h0 h1 h2, Sem.run_pure, t2]
    · exact h.elim
  · exact h.elim

theorem indexAddr_sound (hs : Sim w0 σe we fz β st σ a w) {T : Nat} {x i : Operand} (hop : o.op = .indexAddr T x i) (h : denOp P w0 (AC P w0) esc gk o.dst (.indexAddr T x i) st σ K)
    (hn : ∀ x e σ' v w', K x e σ' → Out w0 σe we fz st a x e σ' v w' → next (a.put o.dst v) w') : o.wp P a w next Q := by
  simp only [denOp] at h
  split at h
  · rename_i v iv e hv hi hu
    split at h
    · rename_i g n ht
      obtain ⟨ad, len, cap, k, m, rfl, rfl, h0, h1, hK⟩ := h
      obtain ⟨_, t2, _⟩ := tyOf_spec ht w
      refine wp_value (w' := w) ?_ (hn _ _ _ _ _ hK (hs.same rfl))
      have hc : 0 ≤ m ∧ m < (len : Int) := ⟨h0, h1⟩
      simp only [execOp, hop, hs.toV hv, hs.toV hi, Instr.indexAt, asIntOf, Sem.run_bind, run_underlying hu, Result.andThen_ok, Sem.run_pure, hc, and_self, if_true, t2]
    · exact h.elim
  · rename_i v iv len e hv hi hu
    split at h
    · rename_i hb g n ht
      obtain ⟨ad, k, m, rfl, rfl, h0, h1, hK⟩ := h
      obtain ⟨_, t2, _⟩ := tyOf_spec ht w
      refine wp_value (w' := w) ?_ (hn _ _ _ _ _ hK (hs.same rfl))
      have hc : 0 ≤ m ∧ m < (len : Int) := ⟨h0, h1⟩
      simp only [execOp, hop, hs.toV hv, hs.toV hi, Instr.indexAt, asIntOf, Sem.run_bind, run_underlying hu, Result.andThen_ok, Sem.run_pure, Instr.sureAddr, hc, and_self, if_true, t2]
    · exact h.elim
  · exact h.elim

theorem index_sound (hs : Sim w0 σe we fz β st σ a w) {T : Nat} {x i : Operand} (hop : o.op = .index T x i) (h : denOp P w0 (AC P w0) esc gk o.dst (.index T x i) st σ K)
    (hn : ∀ x e σ' v w', K x e σ' → Out w0 σe we fz st a x e σ' v w' → next (a.put o.dst v) w') : o.wp P a w next Q := by
  simp only [denOp] at h
  split at h
  · rename_i v iv hv hi hu
    obtain ⟨s, k, m, rfl, rfl, h0, hlt, hK⟩ := h
    refine wp_value (w' := w) ?_ (hn _ _ _ _ _ hK (hs.same rfl))
    simp only [execOp, hop, hs.toV hv, hs.toV hi, Instr.index, asIntOf, Sem.run_bind, run_underlying hu, Result.andThen_ok, Sem.run_pure, h0, if_true]
    rw [getElem?_pos s m.toNat hlt]
    simp
  · exact h.elim

theorem callee_sound {f : FuncId} {vs : List Value} {K : Value → Vw → Prop} (hs : Sim w0 σe we fz β st σ a w) (h : AC P w0 f vs σ K) {next : Act → World → Prop} {Q : Exit → Act → World → Prop} {d : Option Tmp}
    (hn : ∀ r σ' w', K r σ' → Out w0 σe we fz st a (.val r) none σ' r w' → next (a.put d r) w') :
    Calls P f vs.toArray w fun
      | .returned v, w'' => next (a.put d v) w''
      | .panicked chain, w'' => Q (.panic chain) a w''
      | .outgrown, _ => LetsOut Q :=
  (h.2 w hs.sat).mono fun e w' ⟨v, σ', he, hR, ha⟩ => by subst he; exact hn v σ' w' hR (hs.rows ha v)

theorem run_callFunc {f : FuncId} {args : Array Value} (h : ∃ fn, P.funcs[f]? = some fn ∧ (fn.name == "runtime.NumGoroutine") = false ∧ fn.body.isNone = false) : (callFunc f args).run P w = .ok (.enter f args) w := by
  obtain ⟨fn, h1, h2, h3⟩ := h
  unfold callFunc
  simp only [program, Sem.run_bind, Sem.run, h1, Result.andThen_ok, h2, h3, Bool.false_eq_true, if_false]
  rfl

theorem len_sound (hs : Sim w0 σe we fz β st σ a w) {b : Builtin} {as : Array Operand} {ats : Array Nat} (hop : o.op = .call { callee := .builtin b, args := as, argTypes := ats }) (h : denB P w0 b ats.toList as.toList st σ K)
    (hn : ∀ x e σ' v w', K x e σ' → Out w0 σe we fz st a x e σ' v w' → next (a.put o.dst v) w') : o.wp P a w next Q := by
  unfold denB at h
  split at h
  · -- len
    rename_i x T ts hax hat
    have hx : as = #[x] := by rw [← Array.toArray_toList (xs := as), hax]
    obtain ⟨us, hts⟩ : ∃ us : Array Nat, ats = us ∧ us[0]? = some T := ⟨ats, rfl, by rw [← Array.getElem?_toList, hat]; rfl⟩
    have hT : ats[0]? = some T := by obtain ⟨rfl, h⟩ := hts; exact h
    have hv := hs.ev x
    split at h
    · rename_i v hev hu
      rw [hev] at hv
      obtain ⟨s, rfl, hK⟩ := h
      refine wp_value (w' := w) ?_ (hn _ _ _ _ _ hK (hs.same rfl))
      have hv' : a.eval x = .string s := hv
      subst hx
      simp [execOp, hop, resolve, invoke, builtin, Builtin.len_, hT, hv', run_underlying hu, goInt]
    · rename_i v e hev hu
      rw [hev] at hv
      obtain ⟨A, n, c, rfl, hK⟩ := h
      refine wp_value (w' := w) ?_ (hn _ _ _ _ _ hK (hs.same rfl))
      have hv' : a.eval x = .slice A n c := hv
      subst hx
      simp [execOp, hop, resolve, invoke, builtin, Builtin.len_, hT, hv', run_underlying hu, goInt]
    · rename_i k n e hev hu
      rw [hev] at hv
      obtain ⟨_, hv'⟩ := hv
      refine wp_value (w' := w) ?_ (hn _ _ _ _ _ h (hs.same rfl))
      subst hx
      simp [execOp, hop, resolve, invoke, builtin, Builtin.len_, hT, hv', run_underlying hu, goInt]
    · exact h.elim
  · -- append
    rename_i x y T T2 ts hax hat
    have hx : as = #[x, y] := by rw [← Array.toArray_toList (xs := as), hax]
    split at h
    · rename_i yv e e2 v he he2 hv
      have hu := elemOf_spec he
      split at h
      · rename_i g n z ht hz hTT
        obtain rfl := Nat.eq_of_beq_eq_true hTT
        obtain ⟨i, z', hi, hiz, hzc, hl, _⟩ := zeroOf_spec hz w
        have hsz := tyOf_size ht hi
        have hby : P.bytesOf e = i.bytes := by simp [Program.bytesOf, hi]
        have hzs : z'.cells.size = n + 1 := by
          have h1 : (cellsL z').length = n + 1 := by rw [hzc, hl, hsz]
          simpa [cellsL] using h1
        have hy := hs.ev y
        have hxv := hs.toV hv
        have hat' : ats = (T :: T :: ts).toArray := by rw [← hat]
        -- the call, once the source is known
        have go : ∀ (A : Option Addr) (m c : Nat) (new : List Value), a.eval y = .slice A m c → (∀ j u, new[j]? = some u → ∃ ad, A = some ad ∧ w.cell? (ad.add j) = some u) → (∀ c, c ∈ new → c.oneCell' = true) → new.length = m * (n + 1) →
            pAppend w0 e (n + 1) (P.bytesOf e) v m new σ (fun r σ => K (.val r) none σ) → o.wp P a w next Q := by
          intro A m c new hyv hcells h1 hlen hall
          rcases hall with ⟨b, off, k, cp, r, rfl, hr, hroom, _, _, hl2, hK⟩ | ⟨k, cells, hown, hlen', h63, hb, hK⟩
          · obtain ⟨hw0, cur, hcur, hpre, hcap, hfz⟩ := hs.sat.row b r hr
            have hle : r.cells.length ≤ cur.size := by have := hpre.length_le; simpa using this
            have hst := run_storeRow (P := P) b (off + k * (n + 1)) r.ety r.fz new 0 cur w hcur (by omega) hfz h1
            simp only [Nat.add_zero] at hst
            refine wp_value (w' := w.setRow b (setAt cur.toList (off + k * (n + 1)) new).toArray) (v := .slice (some ⟨b, off, none⟩) (k + m) cp) ?_ (hn _ _ _ _ _ hK (hs.rows (Aft.at hs.sat hr hl2 hcur) _))
            subst hx
            have hfc : ∀ ad : Addr, A = some ad → (Builtin.firstCells (n + 1) m (.slice (some ad) m c)).run P w = .ok new.toArray w := fun ad hA =>
              run_firstCells_some (P := P) w (n + 1) m ad m c new hlen fun j u hj => by
                obtain ⟨ad', hA', h⟩ := hcells j u hj
                rw [hA] at hA'; cases hA'; exact h
            have hadd : (⟨b, off, none⟩ : Addr).add (k * (n + 1)) = ⟨b, off + k * (n + 1), none⟩ := by unfold Addr.add; split <;> simp_all
            have hat2 : (Builtin.append_ ats o.type #[.slice (some ⟨b, off, none⟩) k cp, .slice A m c]).run P w = .ok (.slice (some ⟨b, off, none⟩) (k + m) cp) (w.setRow b (setAt cur.toList (off + k * (n + 1)) new).toArray) := by
              subst hat'
              cases A with
              | none =>
                have hnew : new = [] := by
                  cases new with
                  | nil => rfl
                  | cons u r => obtain ⟨_, h, _⟩ := hcells 0 u rfl; cases h
                subst hnew
                simp [Builtin.append_, run_underlying hu, sizeOf, typeInfo, hi, hsz, Builtin.lenOf, hroom, Builtin.firstCells, hadd, hst]
              | some ad => simp [Builtin.append_, run_underlying hu, sizeOf, typeInfo, hi, hsz, Builtin.lenOf, hroom, hfc ad rfl, hadd, hst]
            simp only [execOp, hop, resolve, invoke, builtin, Sem.run_bind, Sem.run_pure, Result.andThen_ok, List.map_toArray, List.map_cons, List.map_nil, hxv, hyv, hat2]
          rw [hby] at hb
          obtain ⟨v', σ', w', hr, hg, haft⟩ := run_app (P := P) (ty := o.type) (c := c) hs.sat hu hi hiz hsz hzs (by omega) hown hlen hcells h1 h63 (by omega)
          refine wp_value (w' := w') (v := v') ?_ (hn _ _ _ _ _ (hK v' σ' hg) (hs.rows haft v'))
          subst hx
          have hat2 : (Builtin.append_ ats o.type #[v, .slice A m c]).run P w = .ok v' w' := by
            rw [← hr]
            subst hat'
            simp only [Builtin.append_]
            rfl
          simp only [execOp, hop, resolve, invoke, builtin, Sem.run_bind, Sem.run_pure, Result.andThen_ok, List.map_toArray, List.map_cons, List.map_nil, hxv, hyv, hat2]
        split at h
        · rename_i k m hev
          rw [hev] at hy
          obtain ⟨_, hyv⟩ := hy
          split at h
          · rename_i cs hcs
            split at h
            · rename_i hlen
              have hlen := Nat.eq_of_beq_eq_true hlen
              obtain ⟨h1, hp⟩ := h
              obtain ⟨T', cur, hcur, rfl⟩ := (hs.box k _ hcs).cells
              refine go _ m m cur.toList hyv (fun j u hj => ⟨_, rfl, ?_⟩) h1 hlen hp
              rw [show (⟨β k, 0, none⟩ : Addr).add j = ⟨β k, j, none⟩ by unfold Addr.add; split <;> simp_all]
              unfold World.cell?
              rw [hcur]
              simpa using hj
            · exact h.elim
          · exact h.elim
        · rename_i u hev
          rw [hev] at hy
          have hyv : a.eval y = u := hy
          obtain ⟨A, m, c, new, rfl, hlen, h1, hc, hp⟩ := h
          refine go A m c new hyv (fun j u hj => ?_) h1 hlen hp
          have hjl : j < new.length := (List.getElem?_eq_some_iff.1 hj).1
          obtain ⟨ad, hA, hg⟩ := hc j hjl
          refine ⟨ad, hA, ?_⟩
          rw [List.getElem?_eq_getElem hjl] at hj
          rw [← Option.some.inj hj]
          exact hs.sat.get hg
        · exact h.elim
      · exact h.elim
    · exact h.elim
  · rename_i _ x y hax
    have hx : as = #[x, y] := by rw [← Array.toArray_toList (xs := as), hax]
    split at h
    · rename_i u v hu hv
      obtain ⟨k, p, q, rfl, rfl, hK⟩ := h
      refine wp_value (w' := w) ?_ (hn _ _ _ _ _ hK (hs.same rfl))
      subst hx
      simp [execOp, hop, resolve, invoke, builtin, Builtin.min_, Builtin.min2, hs.toV hu, hs.toV hv]
    · exact h.elim
  · rename_i _ x y hax
    have hx : as = #[x, y] := by rw [← Array.toArray_toList (xs := as), hax]
    split at h
    · rename_i u v hu hv
      obtain ⟨k, p, q, rfl, rfl, hK⟩ := h
      refine wp_value (w' := w) ?_ (hn _ _ _ _ _ hK (hs.same rfl))
      subst hx
      simp [execOp, hop, resolve, invoke, builtin, Builtin.max_, Builtin.max2, hs.toV hu, hs.toV hv]
    · exact h.elim
  · rename_i x T ts hax hat
    have hx : as = #[x] := by rw [← Array.toArray_toList (xs := as), hax]
    have hat' : ats = (T :: ts).toArray := by rw [← hat]
    split at h
    · rename_i e v he hv
      have hu := elemOf_spec he
      split at h
      · rename_i z g n hz ht
        obtain ⟨hzl, hz1, A, len, cap, rfl, hK⟩ := h
        obtain ⟨i, z', hi, hiz, hzc, hl, hzr⟩ := zeroOf_spec hz w
        have hxv := hs.toV hv
        have hty : ats[0]? = some T := by rw [hat']; simp
        rcases hK with ⟨h0, hK⟩ | ⟨b, off, r, rfl, hpos, hr, hl2, hK⟩
        · refine wp_value (w' := w) (v := .tuple ⟨[]⟩) ?_ (hn _ _ _ _ _ hK (hs.same rfl))
          subst hx
          have hc : (Builtin.clear_ ats o.type #[.slice A len cap]).run P w = .ok (.tuple #[]) w := by
            rcases h0 with rfl | rfl
            · simp [Builtin.clear_, hty, run_underlying hu]
            · cases A <;> simp [Builtin.clear_, hty, run_underlying hu]
          simp only [execOp, hop, resolve, invoke, builtin, Sem.run_bind, Sem.run_pure, Result.andThen_ok, List.map_toArray, List.map_cons, List.map_nil, hxv, hc]
        · obtain ⟨hw0, cur, hcur, hpre, hcap, hfz⟩ := hs.sat.row b r hr
          have hle : r.cells.length ≤ cur.size := by have := hpre.length_le; simpa using this
          have hzlen : (List.replicate len z).flatten.length = len * (n + 1) := by rw [List.length_flatten]; simp [hzl]
          have hst := run_storeRow (P := P) b off r.ety r.fz (List.replicate len z).flatten 0 cur w hcur (by rw [hzlen]; omega) hfz (fun c hc => by
            obtain ⟨l, h1, h2⟩ := List.mem_flatten.1 hc
            rw [List.eq_of_mem_replicate h1] at h2
            exact hz1 c h2)
          simp only [Nat.add_zero] at hst
          refine wp_value (w' := w.setRow b (setAt cur.toList off (List.replicate len z).flatten).toArray) (v := .tuple ⟨[]⟩) ?_ (hn _ _ _ _ _ hK (hs.rows (Aft.at hs.sat hr (by rw [hzlen]; exact hl2) hcur) _))
          subst hx
          have hzz : (Builtin.zeroCells z'.cells len).toList = (List.replicate len z).flatten := by
            have h1 := made_repl z' (n + 1) len (by rw [hzc]; exact hzl) (by omega)
            have h2 : Builtin.zeroCells z'.cells len = (replL (cellsL z') len).toArray := by
              unfold Builtin.zeroCells
              have : z'.cells.size = n + 1 := by
                have : (cellsL z').length = n + 1 := by rw [hzc]; exact hzl
                simpa [cellsL] using this
              rw [this] at h1 ⊢
              exact h1
            rw [h2, hzc, replL_flat]
          have hc : (Builtin.clear_ ats o.type #[.slice (some ⟨b, off, none⟩) len cap]).run P w = .ok (.tuple #[]) (w.setRow b (setAt cur.toList off (List.replicate len z).flatten).toArray) := by
            obtain ⟨len, rfl⟩ : ∃ k, len = k + 1 := ⟨len - 1, by omega⟩
            simp [Builtin.clear_, hty, run_underlying hu, hzr, hzz, hst]
          simp only [execOp, hop, resolve, invoke, builtin, Sem.run_bind, Sem.run_pure, Result.andThen_ok, List.map_toArray, List.map_cons, List.map_nil, hxv, hc]
      · exact h.elim
    · exact h.elim
  · exact h.elim
end
end Go.Av
