/- The abstract layer, part 12: all operations; a region in the order of its text. -/
import Derived.Test.YtkndffhcncmbjaaA11
set_option linter.unusedVariables false
set_option linter.unusedSimpArgs false
namespace Go.Av
open Go Go.RowKit

section
variable {P : Program} {w0 : World} {σe : Vw} {we : World} {fz : Nat} {β : Nat → Nat} {st : St} {σ : Vw} {a : Act} {w : World} {esc : Nat → Bool} {gk : List (Nat × Bool)} {next : Act → World → Prop} {Q : Exit → Act → World → Prop} {o : Oper}

/-- What has been parted on is so. -/
def GkOk (gk : List (Nat × Bool)) (st : St) : Prop := ∀ t b, gkFind gk t = some b → toV (st.tmps.getD t .unk) = some (.bool b)

theorem known_val {c : Operand} {b : Bool} (hg : GkOk gk st) (h : knownB gk st c = some b) : toV (ev st c) = some (.bool b) := by
  unfold knownB at h
  split at h
  · rename_i b' hev
    cases h
    rw [hev]; rfl
  · rename_i v hev
    split at h
    · rename_i t
      exact hg t b h
    · cases h
  · cases h

theorem denOp_sound (hg : GkOk gk st) {K : TV → Eff → Vw → Prop} (hs : Sim w0 σe we fz β st σ a w) (h : denOp P w0 (AC P w0) esc gk o.dst o.op st σ K)
    (hn : ∀ x e σ' v w', K x e σ' → Out w0 σe we fz st a x e σ' v w' → next (a.put o.dst v) w') : o.wp P a w next Q := by
  cases hop : o.op with
  | move x =>
    rw [hop] at h
    exact wp_value (w' := w) (by simp [execOp, hop]) (hn _ _ _ _ _ h (hs.same (hs.ev x)))
  | assign x =>
    rw [hop] at h
    exact wp_value (w' := w) (by simp [execOp, hop]) (hn _ _ _ _ _ h (hs.same (hs.ev x)))
  | pick c x y =>
    rw [hop] at h
    simp only [denOp] at h
    split at h
    · rename_i hev
      have hc' : a.eval c = .bool true := hs.toV (known_val hg hev)
      exact wp_value (w' := w) (by simp [execOp, hop, hc', asBool]) (hn _ _ _ _ _ h (hs.same (hs.ev x)))
    · rename_i hev
      have hc' : a.eval c = .bool false := hs.toV (known_val hg hev)
      exact wp_value (w' := w) (by simp [execOp, hop, hc', asBool]) (hn _ _ _ _ _ h (hs.same (hs.ev y)))
    · have hc := hs.ev c
      split at h
      · rename_i v hev
        rw [hev] at hc
        obtain ⟨b, rfl, h1, h2⟩ := h
        have hc' : a.eval c = .bool b := hc
        cases b with
        | true => exact wp_value (w' := w) (by simp [execOp, hop, hc', asBool]) (hn _ _ _ _ _ (h1 rfl) (hs.same (hs.ev x)))
        | false => exact wp_value (w' := w) (by simp [execOp, hop, hc', asBool]) (hn _ _ _ _ _ (h2 rfl) (hs.same (hs.ev y)))
      · exact h.elim
  | alloc T => rw [hop] at h; exact alloc_sound hs hop h hn
  | box T x => rw [hop] at h; exact box_sound hs hop h hn
  | build T ps => rw [hop] at h; exact build_sound hs hop h hn
  | buildSlice T n ps => rw [hop] at h; exact buildSlice_sound hs hop h hn
  | load T x => rw [hop] at h; exact load_sound hs hop h hn
  | store T x y => rw [hop] at h; exact store_sound hs hop h hn
  | nilCheck x =>
    rw [hop] at h
    simp only [denOp] at h
    have hx := hs.ev x
    split at h
    · rename_i k j hev
      rw [hev] at hx
      exact wp_value (w' := w) (by simp [execOp, hop, hx.2]) (hn _ _ _ _ _ h (hs.same hx))
    · rename_i v hev
      rw [hev] at hx
      obtain ⟨ad, rfl, hK⟩ := h
      have hx' : a.eval x = .pointer (some ad) := hx
      exact wp_value (w' := w) (by simp [execOp, hop, hx']) (hn _ _ _ _ _ hK (hs.same rfl))
    · exact h.elim
  | binOp op T x y yT =>
    rw [hop] at h
    simp only [denOp] at h
    split at h
    · rename_i u v hu hv
      obtain ⟨r, hr, hK⟩ := h
      have hb := bin_sound (w := w) (x := x) (y := y) hr
      refine wp_value (w' := w) (v := r) ?_ (hn _ _ _ _ _ hK (hs.same rfl))
      simp only [execOp, hop, hs.toV hu, hs.toV hv]
      rw [Sem.run_bind, hb]
      rfl
    · exact h.elim
  | unOp op T x =>
    rw [hop] at h
    simp only [denOp] at h
    split at h
    · rename_i u hu
      obtain ⟨r, hr, hK⟩ := h
      refine wp_value (w' := w) (v := r) ?_ (hn _ _ _ _ _ hK (hs.same rfl))
      simp only [execOp, hop, hs.toV hu]
      unfold aun at hr
      split at hr <;> first | (cases hr; simp [Op.unary, Op.intArith]) | cases hr
    · exact h.elim
  | convert s d x => rw [hop] at h; exact convert_sound hs hop h hn
  | makeSlice T l c => rw [hop] at h; exact makeSlice_sound hs hop h hn
  | slice T x lo hi mx =>
    rw [hop] at h
    cases mx with
    | none => exact slice_sound hs hop h hn
    | some m => exact slice3_sound hs hop h hn
  | field T x f =>
    rw [hop] at h
    simp only [denOp] at h
    split at h
    · rename_i fs m v hu ht hv
      split at h
      · rename_i fd hf
        split at h
        · rename_i g n hft
          split at h
          · rename_i hb
            obtain ⟨⟨cs, rfl, hl, h1⟩, hK⟩ := h
            have hle := Nat.le_of_ble_eq_true hb
            obtain ⟨t1, t2, _, t4⟩ := tyOf_spec hft w
            refine wp_value (w' := w) ?_ (hn _ _ _ _ _ hK (hs.same rfl))
            have hcell : ∀ k, cellOf (.agg ⟨cs⟩) k = cs.getD k undef := fun k => rfl
            have hex : ∀ k i, i + k ≤ cs.length → expl (cellOf (.agg ⟨cs⟩)) i k = (cs.drop i).take k := by
              intro k
              induction k with
              | zero => intro i _; simp [expl]
              | succ k ih =>
                intro i hi
                simp only [expl]
                rw [ih (i + 1) (by omega), hcell, List.drop_eq_getElem_cons (l := cs) (i := i) (by omega), List.take_succ_cons]
                simp [List.getD_eq_getElem?_getD, List.getElem?_eq_getElem (show i < cs.length by omega)]
            cases g with
            | true =>
              simp only [execOp, hop, hs.toV hv, Instr.field, Sem.run_bind, run_underlying hu, Result.andThen_ok, hf, asAgg, Sem.run_pure, part, t1, t2, if_true]
              rw [hex n fd.offset (by omega)]
              simp [mkVal, List.take_drop]
            | false =>
              obtain rfl := t4 rfl
              have hlt : fd.offset < cs.length := by omega
              simp only [execOp, hop, hs.toV hv, Instr.field, Sem.run_bind, run_underlying hu, Result.andThen_ok, hf, asAgg, Sem.run_pure, part, t1, t2, Bool.false_eq_true, if_false]
              simp [mkVal, expl, cellOf, cellsL, Value.cells, List.getD_eq_getElem?_getD, List.getElem?_eq_getElem hlt]
          · exact h.elim
        · exact h.elim
      · exact h.elim
    · exact h.elim
  | makeFunc fn first captured =>
    rw [hop] at h
    cases fn with
    | func f =>
      simp only [denOp] at h
      split at h
      · rename_i fs cs hfs hcs
        refine wp_value (w' := w) ?_ (hn _ _ _ _ _ h (hs.same rfl))
        have e1 : first.map a.eval = ⟨fs⟩ := by apply Array.toList_inj.1; rw [Array.toList_map]; exact hs.toVs hfs
        have e2 : captured.map a.eval = ⟨cs⟩ := by apply Array.toList_inj.1; rw [Array.toList_map]; exact hs.toVs hcs
        simp only [execOp, hop, Instr.makeFunc, e1, e2, Sem.run_bind, Sem.run_pure, Result.andThen_ok]
      · exact h.elim
    | _ => exact False.elim h
  | fieldAddr T x f =>
    rw [hop] at h
    simp only [denOp] at h
    have hx := hs.ev x
    split at h
    · rename_i oo k j ho hev
      rw [hev] at hx
      have hr := offOf_run (P := P) ho w ⟨β k, j, none⟩
      refine wp_value (w' := w) (v := .pointer (some ⟨β k, j + oo, none⟩)) ?_ (hn _ _ _ _ _ h (hs.same ⟨hx.1, rfl⟩))
      simp only [execOp, hop, hx.2, Sem.run_bind, hr, Result.andThen_ok, Sem.run_pure]
      congr 4
      unfold Addr.add
      split <;> simp_all
    · rename_i oo v ho hev
      rw [hev] at hx
      obtain ⟨ad, rfl, hK⟩ := h
      have hx' : a.eval x = .pointer (some ad) := hx
      have hr := offOf_run (P := P) ho w ad
      refine wp_value (w' := w) ?_ (hn _ _ _ _ _ hK (hs.same rfl))
      simp only [execOp, hop, hx', Sem.run_bind, hr, Result.andThen_ok, Sem.run_pure]
    · exact h.elim
  | indexAddr T x i => rw [hop] at h; exact indexAddr_sound hs hop h hn
  | index T x i => rw [hop] at h; exact index_sound hs hop h hn
  | extract x i =>
    rw [hop] at h
    simp only [denOp] at h
    split at h
    · rename_i v hv
      obtain ⟨vs, rfl, hi, hK⟩ := h
      refine wp_value (w' := w) (v := vs[i]) ?_ (hn _ _ _ _ _ hK (hs.same rfl))
      simp [execOp, hop, hs.toV hv, Instr.extract, hi]
    · exact h.elim
  | call c =>
    obtain ⟨cal, as, ats⟩ := c
    rw [hop] at h
    cases cal with
    | value x =>
      cases x with
      | func f =>
        simp only [denOp] at h
        split at h
        · rename_i vs hvs
          have hargs := hs.toVs hvs
          have hc := callee_sound (Q := Q) (d := o.dst) hs h (fun r σ' w' hK ho => hn _ _ _ _ _ hK ho)
          have he : (execOp a.eval o).run P w = .ok (.enter f vs.toArray) w := by
            have hm : as.map a.eval = vs.toArray := by
              apply Array.toList_inj.1
              rw [Array.toList_map]
              exact hargs
            have hcf := run_callFunc (P := P) (w := w) (args := vs.toArray) h.1
            simp only [execOp, hop, resolve, Act.eval, Deferred.ofValue, invoke, Sem.run_bind, Sem.run_pure, Result.andThen_ok, hm, Array.empty_append, Array.append_empty, hcf]
          unfold Oper.wp
          rw [he]
          exact hc
        · exact h.elim
      | tmp t =>
        simp only [denOp] at h
        split at h
        · rename_i v vs hv hvs
          obtain ⟨f, fs, cs, rfl, h⟩ := h
          have hargs := hs.toVs hvs
          have hc := callee_sound (Q := Q) (d := o.dst) hs h (fun r σ' w' hK ho => hn _ _ _ _ _ hK ho)
          have he : (execOp a.eval o).run P w = .ok (.enter f (fs ++ vs ++ cs).toArray) w := by
            have hm : as.map a.eval = vs.toArray := by
              apply Array.toList_inj.1
              rw [Array.toList_map]
              exact hargs
            have hcf := run_callFunc (P := P) (w := w) (args := (fs ++ vs ++ cs).toArray) h.1
            have hev : a.eval (.tmp t) = .func (.func f) ⟨fs⟩ ⟨cs⟩ := hs.toV hv
            have happ : (⟨fs⟩ : Array Value) ++ vs.toArray ++ (⟨cs⟩ : Array Value) = (fs ++ vs ++ cs).toArray := by simp
            simp only [execOp, hop, resolve, hev, Deferred.ofValue, invoke, Sem.run_bind, Sem.run_pure, Result.andThen_ok, hm, happ, hcf]
          unfold Oper.wp
          rw [he]
          exact hc
        · exact h.elim
      | const v => exact False.elim h
      | global g => exact False.elim h
    | invoke r m => exact False.elim h
    | builtin b => exact len_sound hs hop h hn
  | _ => rw [hop] at h; exact False.elim h

/-- Behind an operation: the frame. -/
theorem Out.sim {x : TV} {e : Eff} {σ' : Vw} {v : Value} {w' : World} (h : Out w0 σe we fz st a x e σ' v w') (dst : Option Tmp) : ∃ β', Sim w0 σe we fz β' (putT (st.eff e) dst x) σ' (a.put dst v) w' := by
  obtain ⟨β', h1, h2⟩ := h
  exact ⟨β', h1.put dst h2⟩

theorem runG_sound (hg : GkOk gk st) {K : St → Vw → Prop} {go : Bool} (hs : Sim w0 σe we fz β st σ a w) (h : runG P w0 (AC P w0) esc gk o go st σ K) {ops : Array Oper} (hgo : Region.wanted o (yielded ops a.tmps) = go)
    (hn : ∀ β' e x σ' a' w', K (putT (st.eff e) o.dst x) σ' → Sim w0 σe we fz β' (putT (st.eff e) o.dst x) σ' a' w' → next a' w') :
    if Region.wanted o (yielded ops a.tmps) then o.wp P a w next Q ∨ (o.asks P a w ∧ LetsOut Q) else next (a.put o.dst undef) w := by
  rw [hgo]
  cases go with
  | true =>
    simp only [if_true]
    have h' : denOp P w0 (AC P w0) esc gk o.dst o.op st σ (fun x e σ => K (putT (st.eff e) o.dst x) σ) := by simpa only [runG, putK_eq, St.eff] using h
    refine .inl (denOp_sound hg hs h' fun x e σ' v w' hK ho => ?_)
    obtain ⟨β', hs'⟩ := ho.sim o.dst
    exact hn _ _ _ _ _ _ hK hs'
  | false =>
    simp only [Bool.false_eq_true, if_false]
    have h' : K (putT st o.dst .und) σ := by simpa only [runG, putK_eq, St.eff] using h
    exact hn _ none _ _ _ _ h' (hs.put o.dst (x := .und) rfl)

theorem agree_eq (b want : Bool) : agree b want = (some b == some want) := by cases b <;> cases want <;> rfl

theorem yield_of {ops : Array Oper} {g : Nat} {t : Tmp} {b : Bool} (ht : guardSlot ops.toList g = some t) (hb : a.tmps.getD t undef = .bool b) : yielded ops a.tmps g = some b := by
  unfold guardSlot at ht
  have ht' : (ops[g]?).bind (·.dst) = some t := by rw [← ht, Array.getElem?_toList]
  unfold yielded
  rw [ht']
  simp only [Option.bind_some]
  have : a.tmps[t]? = some (.bool b) := by
    rw [Array.getD_eq_getD_getElem?] at hb
    cases hc : a.tmps[t]? with
    | none => rw [hc] at hb; simp [undef] at hb
    | some v => rw [hc] at hb; simp at hb; rw [hb]
  rw [this]

theorem yield_none {ops : Array Oper} {g : Nat} {t : Tmp} (ht : guardSlot ops.toList g = some t) (hb : a.tmps.getD t undef = undef) : yielded ops a.tmps g = none := by
  unfold guardSlot at ht
  have ht' : (ops[g]?).bind (·.dst) = some t := by rw [← ht, Array.getElem?_toList]
  unfold yielded
  rw [ht']
  simp only [Option.bind_some]
  rw [Array.getD_eq_getD_getElem?] at hb
  cases hc : a.tmps[t]? with
  | none => rfl
  | some v => rw [hc] at hb; simp at hb; rw [hb]; rfl

theorem GkOk.put {d : Option Tmp} {x : TV} {e : Eff} (hg : GkOk gk st) (hf : freeSlot gk d = true) : GkOk gk (putT (st.eff e) d x) := by
  intro t b h
  have := hg t b h
  have ht : (st.eff e).tmps = st.tmps := by cases e <;> rfl
  cases d with
  | none => simpa [putT, ht] using this
  | some d =>
    have hne : d ≠ t := fun e' => by
      subst e'
      simp only [freeSlot, h] at hf
      cases hf
    simp only [putT, ht]
    rw [List.getD_eq_getElem?_getD, List.getElem?_set_ne hne, ← List.getD_eq_getElem?_getD]
    exact this

theorem GkOk.cons {t : Nat} {b : Bool} (hg : GkOk gk st) (h : toV (st.tmps.getD t .unk) = some (.bool b)) : GkOk ((t, b) :: gk) st := by
  intro i c hi
  simp only [gkFind] at hi
  cases hb : Nat.beq t i with
  | true =>
    rw [hb] at hi
    simp only [cond_true, Option.some.injEq] at hi
    obtain rfl := Nat.eq_of_beq_eq_true hb
    rw [← hi]; exact h
  | false =>
    rw [hb] at hi
    exact hg i c hi

theorem freeSlot_cons {t : Nat} {b : Bool} {d : Option Tmp} (h1 : freeSlot gk d = true) (h2 : freeSlot [(t, true)] d = true) : freeSlot ((t, b) :: gk) d = true := by
  cases d with
  | none => rfl
  | some d =>
    simp only [freeSlot, gkFind] at *
    cases hb : Nat.beq t d with
    | true => rw [hb] at h2; cases h2
    | false => exact h1

theorem denG_sound (hg : GkOk gk st) {K : List (Nat × Bool) → St → Vw → Prop} {ops : Array Oper} (hs : Sim w0 σe we fz β st σ a w) (h : denG P w0 (AC P w0) ops.toList esc gk o st σ K)
    (hn : ∀ gk' β' st' σ' a' w', K gk' st' σ' → GkOk gk' st' → Sim w0 σe we fz β' st' σ' a' w' → next a' w') :
    if Region.wanted o (yielded ops a.tmps) then o.wp P a w next Q ∨ (o.asks P a w ∧ LetsOut Q) else next (a.put o.dst undef) w := by
  unfold denG at h
  split at h
  · exact h.elim
  · rename_i hfr
    split at h
    · rename_i hgd
      exact runG_sound hg hs h (by simp [Region.wanted, hgd]) (fun β' e x σ' a' w' hK hs' => hn gk β' _ σ' a' w' hK (hg.put hfr) hs')
    · rename_i g want hgd
      split at h
      · exact h.elim
      · rename_i t ht
        split at h
        · exact h.elim
        · rename_i hft
          split at h
          · rename_i b hb
            have hx' : a.tmps.getD t undef = .bool b := hs.toV (x := .tmp t) (known_val (c := .tmp t) hg hb)
            refine runG_sound hg hs h ?_ (fun β' e x σ' a' w' hK hs' => hn gk β' _ σ' a' w' hK (hg.put hfr) hs')
            rw [agree_eq]
            simp only [Region.wanted, hgd, yield_of ht hx']
          · split at h
            · rename_i v hb
              obtain ⟨b, rfl, h1, h2⟩ := h
              have hv : toV (st.tmps.getD t .unk) = some (.bool b) := by rw [hb]; rfl
              have hx' : a.tmps.getD t undef = .bool b := hs.toV (x := .tmp t) hv
              cases b with
              | true =>
                have hg' := hg.cons hv
                refine runG_sound hg' hs (h1 rfl) ?_ (fun β' e x σ' a' w' hK hs' => hn _ β' _ σ' a' w' hK (hg'.put (freeSlot_cons hfr hft)) hs')
                rw [agree_eq]
                simp only [Region.wanted, hgd, yield_of ht hx']
              | false =>
                have hg' := hg.cons hv
                refine runG_sound hg' hs (h2 rfl) ?_ (fun β' e x σ' a' w' hK hs' => hn _ β' _ σ' a' w' hK (hg'.put (freeSlot_cons hfr hft)) hs')
                rw [agree_eq]
                simp only [Region.wanted, hgd, yield_of ht hx']
            · rename_i hb
              have hx' : a.tmps.getD t undef = undef := by have := hs.tm t; rw [hb] at this; exact this
              refine runG_sound hg hs h ?_ (fun β' e x σ' a' w' hK hs' => hn gk β' _ σ' a' w' hK (hg.put hfr) hs')
              simp only [Region.wanted, hgd, yield_none ht hx']
              cases want <;> rfl
            · exact h.elim

theorem denOps_sound {ops : Array Oper} : ∀ (l : List Nat) (os : List Oper) (gk : List (Nat × Bool)) (β : Nat → Nat) (st : St) (σ : Vw) (a : Act) (w : World) (K : St → Vw → Prop), l.map (ops[·]?) = os.map some → GkOk gk st → Sim w0 σe we fz β st σ a w → denOps P w0 (AC P w0) ops.toList esc os gk st σ K →
    (∀ β' st' σ' a' w', K st' σ' → Sim w0 σe we fz β' st' σ' a' w' → Q .normal a' w') → wpOps P ops Q l a w
  | [], os, gk, β, st, σ, a, w, K, hl, hg, hs, h, hn => by
    cases os with
    | nil => exact hn _ _ _ _ _ h hs
    | cons o r => simp at hl
  | i :: l, os, gk, β, st, σ, a, w, K, hl, hg, hs, h, hn => by
    cases os with
    | nil => simp at hl
    | cons o r =>
      simp only [List.map_cons, List.cons.injEq] at hl
      obtain ⟨ho, hl⟩ := hl
      simp only [wpOps, ho]
      exact denG_sound (next := wpOps P ops Q l) hg hs h (fun gk' β' st' σ' a' w' hK hg' hs' => denOps_sound l r gk' β' st' σ' a' w' K hl hg' hs' hK hn)
end
end Go.Av
