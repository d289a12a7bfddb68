/- The law FnExactTrailDiff holds: it returns true, and the input reads as it did. No condition. This is part 4 of 4 of its proof. -/
import Derived.Test.YtkbhjejalkbogaaGreatXFnExactTrailDiff3
import Derived.Below
import Derived.Test.YtkbhjejalkbogaaGreatRows
import Derived.WalkKit
import Derived.ProofKit
import Derived.OpenShut
import Derived.ShutString
import Derived.ChangeOld
import Derived.Carry
import Derived.SizedLaws

/- slices.Sort and slices.Compact on texts in rows of our own; the names of either of two parts. -/
set_option linter.unusedVariables false
set_option linter.unusedSimpArgs false
namespace Go.Proofs.YtkbhjejalkbogaaGreat
open Go Go.Av Go.RowKit Go.Sort

section
variable {w0 : World} {σ : Vw} {α : Type}

theorem put_cells {enc : α → Value} [Inhabited α] {zs ds : List α} {cur : Array Value} (hp : zs.map enc <+: cur.toList) (hl : ds.length = zs.length) : (ds.map enc <+: (putCells enc 0 ds.toArray cur).toList) ∧ (putCells enc 0 ds.toArray cur).size = cur.size := by
  refine ⟨?_, by simp [putCells]⟩
  have hlen := hp.length_le
  simp only [List.length_map, Array.length_toList] at hlen
  rw [List.prefix_iff_getElem?]
  intro i hi
  have hi' : i < ds.length := by simpa using hi
  rw [Array.getElem?_toList]
  simp only [putCells, Array.getElem?_mapIdx]
  rw [Array.getElem?_eq_getElem (by omega), Option.map_some, if_pos ⟨by omega, by simp; omega⟩]
  simp only [Nat.sub_zero, List.getElem_map, Option.some.injEq]
  rw [getElem!_pos _ i (by simpa using hi')]
  simp
theorem put_aft {enc : α → Value} [Inhabited α] {w : World} {b e cap n : Nat} {zs ds : List α} {os : Array Obj} (hw : Sat w0 σ w) (hb : w0.heap.size ≤ b) (hr : σ b = some ⟨e, zs.map enc, cap, (0, 0)⟩) (hl : ds.length = zs.length) :
    Aft w0 σ w (σ.put b ⟨e, ds.map enc, cap, (0, 0)⟩) (Sort.grow (putRow enc (Sort.ahead w n) b 0 ds.toArray) os) := by
  obtain ⟨_, cur, hc, hpre, hcap, _⟩ := hw.row b _ hr
  simp only at hc hpre hcap
  have hlt := hw.lt hr
  obtain ⟨p1, p2⟩ := put_cells (enc := enc) hpre hl
  have hs : (putRow enc (Sort.ahead w n) b 0 ds.toArray).heap.size = w.heap.size := by simp [putRow, mapBlock, Sort.ahead]
  have hk : ∀ k, k < w.heap.size → k ≠ b → (Sort.grow (putRow enc (Sort.ahead w n) b 0 ds.toArray) os).heap[k]? = w.heap[k]? := fun k hk hkb => by
    rw [Sort.heap_grow_old _ _ (by omega)]
    have hkb' : ¬ b = k := fun e => hkb e.symm
    simp [putRow, mapBlock, Sort.ahead, Array.getElem?_modify, hkb']
  have hbk : (Sort.grow (putRow enc (Sort.ahead w n) b 0 ds.toArray) os).heap[b]? = some (.cells (putCells enc 0 ds.toArray cur) e (0, 0)) := by
    rw [Sort.heap_grow_old _ _ (by omega)]
    simp [putRow, mapBlock, Sort.ahead, Array.getElem?_modify, hc, onCells]
  have hsz : w.heap.size ≤ (Sort.grow (putRow enc (Sort.ahead w n) b 0 ds.toArray) os).heap.size := by simp [Sort.grow, hs]
  refine ⟨⟨?_, fun i r hi => ?_⟩, hsz, fun i hi hn => hk i hi (fun e => by rw [e, hr] at hn; cases hn), fun i r hi => ?_⟩
  · refine ⟨hw.bel.os, hw.bel.tape, hw.bel.output, Nat.le_trans hw.bel.size hsz, fun i hi => ?_⟩
    rw [hk i (Nat.lt_of_lt_of_le hi hw.bel.size) (by omega)]
    exact hw.bel.block i hi
  · by_cases e1 : i = b
    · subst e1
      rw [put_at] at hi; cases hi
      exact ⟨hb, _, hbk, p1, by rw [p2]; exact hcap, .inr (Nat.le_refl _)⟩
    · rw [put_ne e1] at hi
      obtain ⟨g1, cur', g2, g3⟩ := hw.row i r hi
      exact ⟨g1, cur', (hk i (hw.lt hi) e1).trans g2, g3⟩
  · by_cases e1 : i = b
    · subst e1; exact .inl (by rw [hr]; simp)
    · rw [put_ne e1] at hi; exact .inl (by rw [hi]; simp)

theorem enc_strs (l : List (List UInt8)) : l.map encStr = (l.map ofL).map Value.string := by rw [List.map_map]; rfl
theorem ofL_bls (l : List ByteArray) : (l.map bl).map ofL = l := by
  rw [List.map_map]
  have : ∀ l : List ByteArray, l.map (ofL ∘ bl) = l := fun l => by
    induction l with
    | nil => rfl
    | cons a r ih => simp only [List.map_cons, Function.comp_apply, ofL_bl, ih]
  exact this l
/-- The row behind a list of texts that may grow. -/
theorem acc_cells {F : List Nat} {v : Value} {xs : List ByteArray} (h : OAcc w0 t_string 1 OStr σ F v xs) : (v = .slice none 0 0 ∧ xs = [] ∧ F = []) ∨
    ∃ b cap, v = .slice (some ⟨b, 0, none⟩) xs.length cap ∧ (xs.length ≤ cap ∧ cap ≤ 9223372036854775807) ∧ w0.heap.size ≤ b ∧ σ b = some ⟨t_string, xs.map Value.string, cap, (0, 0)⟩ ∧ F = [b] ∧ ∀ x, x ∈ xs → x.size ≤ 9223372036854775807 := by
  obtain ⟨h1, h2, h3 | ⟨b, cap, css, Fs, g1, g2, g3, g4, g5, g6, g7, g8⟩⟩ := h
  · exact .inl h3
  · refine .inr ⟨b, cap, g1, g2, g3, ?_, ?_, fun x hx => ?_⟩
    · rw [g4, Nat.mul_one]
      have e : css.flatten = xs.map Value.string := by
        have e2 : css = xs.map fun s => [Value.string s] := by
          apply List.ext_getElem?
          intro j
          rw [List.getElem?_map]
          by_cases hj : j < xs.length
          · have hc := List.getElem?_eq_getElem (show j < css.length by omega)
            have := g8 j _ _ _ hc (List.getElem?_eq_getElem hj) (List.getElem?_eq_getElem (by omega))
            rw [hc, List.getElem?_eq_getElem hj, this.2.1]; rfl
          · rw [List.getElem?_eq_none (by omega), List.getElem?_eq_none (by omega)]; rfl
        rw [e2, ← flat_strs]
      rw [e]
    · rw [g7]
      congr 1
      refine List.eq_nil_iff_forall_not_mem.2 fun i hi => ?_
      obtain ⟨j, f, hf, hif⟩ := mem_flat hi
      have hjl := (List.getElem?_eq_some_iff.1 hf).1
      have := g8 j _ _ f (List.getElem?_eq_getElem (by omega)) (List.getElem?_eq_getElem (by omega)) hf
      rw [this.1] at hif; cases hif
    · obtain ⟨j, hj⟩ := List.getElem?_of_mem hx
      have hjl := (List.getElem?_eq_some_iff.1 hj).1
      exact (g8 j _ x _ (List.getElem?_eq_getElem (by omega)) hj (List.getElem?_eq_getElem (by omega))).2.2

def namesU (xs : List ByteArray) : List ByteArray := (sortU (xs.map bl)).map ofL
theorem namesU_mem (xs : List ByteArray) (x : ByteArray) : x ∈ namesU xs ↔ x ∈ xs := by
  unfold namesU
  constructor
  · intro h
    obtain ⟨l, hl, rfl⟩ := List.mem_map.1 h
    obtain ⟨y, hy, rfl⟩ := List.mem_map.1 ((sortU_mem _ _).1 hl)
    rw [ofL_bl]; exact hy
  · intro h
    exact List.mem_map.2 ⟨bl x, (sortU_mem _ _).2 (List.mem_map.2 ⟨x, h, rfl⟩), ofL_bl x⟩
theorem namesU_asc (xs : List ByteArray) : AscS (namesU xs) := by
  unfold namesU AscS
  rw [List.pairwise_map]
  refine (sortU_asc (xs.map bl)).imp fun {a b} h => ?_
  unfold strLt
  rw [ByteArray.toList_eq, ByteArray.toList_eq]
  exact h

theorem sort_compact {F : List Nat} {v : Value} {xs : List ByteArray} (h : OAcc w0 t_string 1 OStr σ F v xs) (hl : xs.length ≤ 1000000000000) {R : Value → Vw → Prop}
    (hR : ∀ v' σ', KeepsBut F σ σ' → OStrs w0 σ' F v' (namesU xs) → R v' σ') :
    AC Tryz.prog w0 n_slices_Sort_string_string [v] σ (fun _ s => AC Tryz.prog w0 n_slices_Compact_string_string [v] s R) := by
  refine ⟨is_slices_Sort_string_string, fun w hw => ?_⟩
  rcases acc_cells h with ⟨rfl, rfl, rfl⟩ | ⟨b, cap, rfl, hc, hb, hr, rfl, hsz⟩
  · refine (Tryz.slices_Sort_string_none none 0 w).mono ?_
    rintro e w' ⟨rfl, rfl⟩
    refine ⟨_, σ, rfl, ⟨is_slices_Compact_string_string, fun w2 hw2 => ?_⟩, Aft.refl hw⟩
    refine (Tryz.slices_Compact_string_empty none 0 w2).mono ?_
    rintro e w3 ⟨rfl, rfl⟩
    exact ⟨_, σ, rfl, hR _ _ (KeepsBut.refl _ _) ⟨by simp [namesU, sortU, Lib.compact, Lib.compactUpTo], by simp, .inl ⟨rfl, by simp [namesU, sortU, Lib.compact, Lib.compactUpTo], rfl⟩⟩, Aft.refl hw2⟩
  have e0 : xs.map Value.string = (xs.map bl).map encStr := by rw [enc_strs, ofL_bls]
  have hlz : (xs.map bl).length = xs.length := by simp
  have holds : ∀ {w : World} {s : Vw} {zs : List (List UInt8)}, Sat w0 s w → s b = some ⟨t_string, zs.map encStr, cap, (0, 0)⟩ → Holds encStr w b 0 zs.toArray := fun {w s zs} hw hr => by
    obtain ⟨_, cur, hc, hpre, hcap, _⟩ := hw.row b _ hr
    simp only at hc hpre hcap
    intro j hj
    have hj' : j < zs.length := by simpa using hj
    have hjc : j < cur.size := by have := hpre.length_le; simp at this; omega
    refine ⟨?_, ?_⟩
    · unfold World.cell?
      rw [hc]
      simp only [Option.isSome_none, Bool.false_eq_true, if_false, Nat.zero_add]
      have := hpre.getElem (i := j) (by simpa using hj')
      rw [← Array.getElem?_toList, List.getElem?_eq_getElem (by simpa using hjc), ← this, getElem!_pos _ j hj]
      simp
    · unfold World.frozen?
      rw [hc]
      simp
  rw [e0] at hr
  have h1 := Tryz.slices_Sort_string b 0 cap (xs.map bl) w (holds hw hr) (hw.lt hr) (by omega)
  rw [hlz] at h1
  refine h1.mono ?_
  rintro e w' ⟨rfl, n, os, rfl⟩
  have hlm : ((xs.map bl).mergeSort fun x y => decide (x ≤ y)).length = (xs.map bl).length := List.length_mergeSort _
  refine ⟨_, _, rfl, ⟨is_slices_Compact_string_string, fun w2 hw2 => ?_⟩, put_aft hw hb hr hlm⟩
  have hmz : ((xs.map bl).mergeSort fun x y => decide (x ≤ y)).length = xs.length := hlm.trans hlz
  have h2 := Tryz.slices_Compact_string b 0 cap ((xs.map bl).mergeSort fun x y => decide (x ≤ y)) w2 (holds hw2 put_at) (by omega) (by omega)
  rw [hmz] at h2
  refine h2.mono ?_
  rintro e w3 ⟨rfl, q, rfl⟩
  have hsu : Lib.compact ((xs.map bl).mergeSort fun x y => decide (x ≤ y)) = sortU (xs.map bl) := rfl
  have hsl : (sortU (xs.map bl)).length ≤ xs.length := by
    rw [← hsu, ← hmz]
    unfold Lib.compact Lib.compactUpTo
    rw [List.length_map]
    exact Nat.le_trans (List.length_filter_le _ _) (by simp)
  rw [hsu]
  have hln : (sortU (xs.map bl) ++ List.replicate (xs.length - (sortU (xs.map bl)).length) []).length = ((xs.map bl).mergeSort fun x y => decide (x ≤ y)).length := by
    rw [List.length_append, List.length_replicate, hmz]; omega
  have ha := put_aft (os := #[]) (n := q) hw2 hb (put_at (σ := σ) (r := ⟨t_string, ((xs.map bl).mergeSort fun x y => decide (x ≤ y)).map encStr, cap, (0, 0)⟩)) hln
  have eg : ∀ w : World, Sort.grow w #[] = w := fun w => by cases w; simp [Sort.grow]
  rw [eg] at ha
  have hnu : (sortU (xs.map bl)).length = (namesU xs).length := by simp [namesU]
  rw [hnu] at ha ⊢
  refine ⟨_, _, rfl, hR _ _ (fun i r hi hF => ?_) ?_, ha⟩
  · have : i ≠ b := fun e => hF (by simp [e])
    rw [put_ne this, put_ne this]; exact hi
  · refine ⟨by omega, by simp, .inr ⟨b, 0, cap, _, [], (List.replicate (xs.length - (namesU xs).length) []).map encStr, (namesU xs).map fun s => [Value.string s], List.replicate (namesU xs).length [], rfl, ⟨by omega, hc.2⟩, hb, put_at, ?_, rfl, by simp, by simp, by simp, fun j c x f e1 e2 e3 => ?_⟩⟩
    · simp only [List.nil_append]
      rw [List.map_append, ← flat_strs, enc_strs]; rfl
    · rw [List.getElem?_map, e2] at e1
      cases e1
      rw [List.getElem?_replicate] at e3
      split at e3
      · cases e3
        exact ⟨rfl, rfl, hsz x ((namesU_mem xs x).1 (List.mem_of_getElem? e2))⟩
      · cases e3

theorem ext_stay {s s' : Vw} {v : Value} {n : Nat} (h : Ext s s') : Stay w0 s s' v n := fun a g _ hc j hj => Ext.le h _ _ (hc j hj)
/-- A field behind a pointer is read; its address. -/
theorem PT.ldp {n : Nat} {p : Value} {x : Tr} (h : PT n (Av.get w0 σ) p x) (o : Nat) (ho : o < 5) {K : Value → (Nat → Value) → Prop} (hK : ∀ (q : Value) (es : List Value) (g : Nat → Value), RT n (Av.get w0 σ) es x → es[o]? = some (g 0) → K q g) : pNil p (pField o p fun q => pLoad w0 1 q σ (K q)) := by
  obtain ⟨a, es, rfl, h5, h6, h7⟩ := h
  rw [pNil_s, pField_s]
  refine ⟨_, fun _ => es.getD o undef, rfl, fun i hi => ?_, hK _ es _ h7 ?_⟩
  · have e : i = 0 := by omega
    subst e
    have := h6 o ho
    rw [add_add, Nat.add_zero, this, List.getElem?_eq_getElem (by omega)]
    simp only [List.getD_eq_getElem?_getD, List.getElem?_eq_getElem (show o < es.length by omega), Option.getD_some]
  · simp only [List.getD_eq_getElem?_getD, List.getElem?_eq_getElem (show o < es.length by omega), Option.getD_some]

theorem impl_either {n m : Nat} {p q : Value} {x y : Tr} (h : PT n (Av.get w0 σ) p x) (h' : PT m (Av.get w0 σ) q y) (hl : (namesOf x).length ≤ 1000000 ∧ (namesOf y).length ≤ 1000000) {R : Value → Vw → Prop}
    (hR : ∀ v F σ', Keeps σ σ' → OStrs w0 σ' F v (namesU (namesOf x ++ namesOf y)) → (∀ i, i ∈ F → σ i = none) → R v σ') : AC Tryz.prog w0 n_impl_either [p, q] σ R := by
  refine ac_impl_either ?_
  unfold vc_impl_either
  refine h.ldp 3 (by omega) fun qa es g he hg => ?_
  obtain ⟨u, w, rfl, _, _, h4, _, _⟩ := he.cells
  simp only [List.getElem?_cons_zero, List.getElem?_cons_succ, Option.some.injEq] at hg
  refine h'.ldp 3 (by omega) fun qb es' g' he' hg' => ?_
  obtain ⟨u', w', rfl, _, _, h4', _, _⟩ := he'.cells
  simp only [List.getElem?_cons_zero, List.getElem?_cons_succ, Option.some.injEq] at hg'
  intro b hb1 hb2
  have kb : Keeps σ (σ.put b ⟨t_string, [], 0, (0, 0)⟩) := Keeps.put hb2
  have hb0 : ∀ i, i ∈ [b] → σ i = none := fun i hi => by rw [List.mem_singleton.1 hi]; exact hb2
  refine ⟨kb.stay, kb.stay, ?_⟩
  rw [← hg]
  refine (OAcc.new (w0 := w0) (σ := σ) (ety := t_string) (n := 1) (O := OStr) hb1).allX (ok_str w0) h4 kb.le (fun es y hy => ⟨rfl, hy⟩) (by simp; omega) (by omega) fun v1 F1 s1 x1 k1 o1 f1 => ?_
  rw [List.nil_append] at o1
  refine ⟨ext_stay x1, ?_⟩
  have K1 := k1.old kb hb0
  have hF1 := fresh_in kb hb0 f1
  rw [← hg']
  refine o1.all (ok_str w0) h4' K1.le (fun es y hy => ⟨rfl, hy⟩) (by omega) (by omega) fun v2 F2 s2 k2 o2 f2 => ?_
  have K2 := k2.old K1 hF1
  have hF2 := fresh_in K1 hF1 f2
  refine sort_compact o2 (by rw [List.length_append]; omega) fun v3 s3 k3 o3 => ?_
  exact hR v3 F2 s3 (k3.old K2 hF2) o3 hF2
end
end Go.Proofs.YtkbhjejalkbogaaGreat

/- What becomes of a part, with all below: what it is; by the reference's hand. -/
set_option linter.unusedVariables false
set_option linter.unusedSimpArgs false
set_option maxRecDepth 20000
namespace Go.Proofs.YtkbhjejalkbogaaGreat
open Go Go.Av

def fNew (_ : Nat) (ps : List ByteArray) (x : Tr) : En := (ps, 2, isDir x, modeOf x, dataOf x)
def goneE (ps : List ByteArray) : En := (ps, 1, false, 0, ⟨#[]⟩)
noncomputable def partE (ps : List ByteArray) (a b : Tr) : List En :=
  (if modeOf a = modeOf b then [] else [(ps, 3, false, modeOf b, ⟨#[]⟩)]) ++ (if dataOf a = dataOf b then [] else [(ps, 4, false, 0, dataOf b)])
def partsOf (x : Tr) : List (ByteArray × Tr) := (namesOf x).zip (kidsOf x)
noncomputable def walkE : Nat → List ByteArray → Option Tr → Option Tr → List En
  | 0, _, _, _ => []
  | _ + 1, _, none, none => []
  | n + 1, ps, none, some b => linT fNew (n + 1) ps b
  | _ + 1, ps, some _, none => [goneE ps]
  | n + 1, ps, some a, some b => if isDir a = isDir b then partE ps a b ++ ((mrgK (partsOf a) (partsOf b)).map fun z => walkE n (ps ++ [z.1]) z.2.1 z.2.2).flatten else goneE ps :: linT fNew (n + 1) ps b
def cntO (n : Nat) : Option Tr → Nat
  | none => 0
  | some x => cntT n x + 1
theorem partE_len (ps : List ByteArray) (a b : Tr) : (partE ps a b).length ≤ 2 := by
  unfold partE
  split <;> split <;> simp
theorem walkE_len : ∀ (n : Nat) (ps : List ByteArray) (a b : Option Tr), (walkE n ps a b).length ≤ cntO n a + 2 * cntO n b
  | 0, _, _, _ => by simp [walkE]
  | _ + 1, _, none, none => by simp [walkE]
  | n + 1, ps, none, some b => by
    have := linT_len fNew (n + 1) ps b
    simp only [walkE, cntO]; omega
  | _ + 1, ps, some _, none => by simp [walkE, cntO]
  | n + 1, ps, some a, some b => by
    have h1 := linT_len fNew (n + 1) ps b
    simp only [walkE]
    split
    · have h2 := partE_len ps a b
      have h3 : ((mrgK (partsOf a) (partsOf b)).map fun z => walkE n (ps ++ [z.1]) z.2.1 z.2.2).flatten.length ≤ sumBy (fun z : Pr => cntO n z.2.1 + 2 * cntO n z.2.2) (mrgK (partsOf a) (partsOf b)) := flat_sum fun z _ => walkE_len n _ _ _
      rw [mrgK_sum (A := cntO n) (B := fun o => 2 * cntO n o) rfl rfl] at h3
      obtain ⟨d, m, t, ns, ks⟩ := a
      obtain ⟨d', m', t', ns', ks'⟩ := b
      have h4 := zip_sum (f := cntT n) (ns := ns) (ks := ks)
      have h5 := zip_sum (f := cntT n) (ns := ns') (ks := ks')
      have h6 : ∀ l : List (ByteArray × Tr), sumBy (fun y => 2 * cntO n (some y.2)) l = 2 * sumBy (fun y : ByteArray × Tr => cntT n y.2 + 1) l := fun l => by
        induction l with
        | nil => rfl
        | cons a r ih =>
          show 2 * (cntT n a.2 + 1) + _ = 2 * ((cntT n a.2 + 1) + _)
          rw [ih]; omega
      rw [h6] at h3
      have e1 : cntT (n + 1) (.mk d m t ns ks) = ks.length + sumBy (cntT n) ks := rfl
      have e2 : cntT (n + 1) (.mk d' m' t' ns' ks') = ks'.length + sumBy (cntT n) ks' := rfl
      simp only [cntO, partsOf, namesOf, kidsOf] at h3 ⊢
      rw [List.length_append]
      omega
    · simp only [cntO, List.length_cons]; omega

section
variable {w0 : World} {σ : Vw}

theorem fNew_own {s : Vw} {P : List Nat} {v : Value} {ps : List ByteArray} {x : Tr} {n : Nat} (ho : OStrs w0 s P v ps) (hm : -9223372036854775808 ≤ modeOf x ∧ modeOf x ≤ 9223372036854775807) (ht : (dataOf x).size ≤ 9223372036854775807) :
    OEn w0 s P [v, .int .i64 2, .bool (isDir x), .int .i64 (modeOf x), .string (dataOf x)] (fNew n ps x) := ⟨v, rfl, ho, ⟨by show _ ≤ (2 : Int) ∧ (2 : Int) ≤ _; omega, hm, ht⟩⟩
theorem gone_own {s : Vw} {P : List Nat} {v : Value} {ps : List ByteArray} (ho : OStrs w0 s P v ps) : OEn w0 s P [v, .int .i64 1, .bool false, .int .i64 0, .string ⟨#[]⟩] (goneE ps) :=
  ⟨v, rfl, ho, ⟨by show _ ≤ (1 : Int) ∧ (1 : Int) ≤ _; omega, by show _ ≤ (0 : Int) ∧ (0 : Int) ≤ _; omega, by show 0 ≤ _; omega⟩⟩

theorem spec_new (n : Nat) : Lists w0 n_spec_l3New t_impl_Entry (OEn w0) fNew n := by
  induction n with
  | zero => intro σ v es ps x R _ h; exact h.elim
  | succ n ih =>
    intro σ v es ps x R hv h hx hc hps hR
    obtain ⟨d, m, t, ns, ks⟩ := x
    have h0 := h
    have hx0 := hx
    obtain ⟨u, w, rfl, h2, h3, h4, h5⟩ := h
    obtain ⟨hm, ht, hl, hns, hks⟩ := hx
    have hcnt : cntT (n + 1) (.mk d m t ns ks) = ks.length + sumBy (cntT n) ks := rfl
    refine ac_spec_l3New ?_
    unfold vc_spec_l3New
    rw [pVal_5 rfl rfl rfl h4.one h5.one]
    simp only [cellOf_agg, List.getD_cons_zero, List.getD_cons_succ]
    refine copy_strs hv (by omega) fun v1 P s1 k1 o1 f1 => ?_
    rw [pVal1 (OSl.one' o1), pVal1 rfl, pVal1 rfl, pVal1 rfl, pVal1 rfl, pVal_5 (OSl.one' o1) rfl rfl rfl rfl]
    intro b hb1 hb2
    have hacc := OAcc.single (ok_en w0) (ety := t_impl_Entry) hb1 hb2 (fNew_own (n := n + 1) (x := .mk d m t ns ks) o1 h2 h3)
    have K3 := k1.trans (Keeps.put (r := ⟨t_impl_Entry, [v1, .int .i64 2, .bool d, .int .i64 m, .string t], 5, (0, 0)⟩) hb2)
    refine lin_loop (σ := σ) (ok_en w0) ih hv h4 h5 hl hns hks (by omega) hps hacc K3 (fun i hi => ?_) fun v' G' s' k' o' f' => ?_
    · rcases List.mem_cons.1 hi with rfl | hi
      · exact none_old k1 hb2
      · exact f1 i hi
    · exact hR v' G' s' k' o' f'

theorem spec_gone {v : Value} {ps : List ByteArray} (hv : RSl 1 RS (Av.get w0 σ) v ps) (hl : ps.length ≤ 1000000) {R : Value → Vw → Prop}
    (hR : ∀ v' G s', Keeps σ s' → OAcc w0 t_impl_Entry 5 (OEn w0) s' G v' [goneE ps] → (∀ i, i ∈ G → σ i = none) → R v' s') : AC Tryz.prog w0 n_spec_l3Gone [v] σ R := by
  refine ac_spec_l3Gone ?_
  unfold vc_spec_l3Gone
  refine copy_strs hv (by omega) fun v1 P s1 k1 o1 f1 => ?_
  rw [pVal1 (OSl.one' o1), pVal1 rfl, pVal_5 (OSl.one' o1) rfl rfl rfl rfl]
  intro b hb1 hb2
  refine hR _ _ _ (k1.trans (Keeps.put hb2)) (OAcc.single (ok_en w0) (ety := t_impl_Entry) hb1 hb2 (gone_own o1)) fun i hi => ?_
  rcases List.mem_cons.1 hi with rfl | hi
  · exact none_old k1 hb2
  · exact f1 i hi

/-- One more entry, its path copied. -/
theorem part_push {G : List Nat} {acc v : Value} {xs : List En} {ps : List ByteArray} {s : Vw} {X Y : Value} {k m : Int} {t : ByteArray} (hv : RSl 1 RS (Av.get w0 σ) v ps) (hl : ps.length ≤ 1000000) (k0 : Keeps σ s) (hG : ∀ i, i ∈ G → σ i = none)
    (ho : OAcc w0 t_impl_Entry 5 (OEn w0) s G acc xs) (hX : X.oneCell' = true) (hY : Y.oneCell' = true) (hok : enOk (ps, k, false, m, t)) (hxl : xs.length ≤ 1000000) {K : Value → Vw → Prop}
    (hK : ∀ v' G' s', Keeps σ s' → OAcc w0 t_impl_Entry 5 (OEn w0) s' G' v' (xs ++ [(ps, k, false, m, t)]) → (∀ i, i ∈ G' → σ i = none) → K v' s') :
    pNew w0 t_string [] s (fun n3 s4 => pAppendS w0 t_string 1 16 (.slice (some (Addr.mk n3 0 none)) 0 0) v s4 (fun v5 s6 => pVal false 1 v5 (pVal false 1 X (pVal false 1 Y (pVal true 5 (.agg (⟨[v5, .int .i64 k, .bool false, .int .i64 m, .string t]⟩)) ((allOne ([v5, .int .i64 k, .bool false, .int .i64 m, .string t])) ∧
      (pAppend w0 t_impl_Entry 5 64 acc 1 ([v5, .int .i64 k, .bool false, .int .i64 m, .string t]) s6 K))))))) := by
  refine copy_strs (hv.mono k0.le fun _ _ h => h) (by omega) fun v1 P s1 k1 o1 f1 => ?_
  rw [pVal1 (OSl.one' o1), pVal1 hX, pVal1 hY, pVal_5 (OSl.one' o1) rfl rfl rfl rfl]
  have ho1 := ho.frame (ok_en w0) (k1.but_at fun i hi => (ho.dom (ok_en w0) i hi).2)
  refine ho1.one (ok_en w0) (y := (ps, k, false, m, t)) ⟨v1, rfl, o1, hok⟩ (fun i hi hi' => (ho.dom (ok_en w0) i hi').2 (f1 i hi)) (by omega) (by omega) fun v' G' s' k' o' f' => ?_
  refine hK v' G' s' (k'.old (k0.trans k1) hG) o' fun i hi => ?_
  rcases f' i hi with h | h | h
  · exact hG i h
  · exact none_old k0 (f1 i h)
  · exact none_old (k0.trans k1) h

theorem spec_part {n m : Nat} {v : Value} {ps : List ByteArray} {es es' : List Value} {x y : Tr} (hv : RSl 1 RS (Av.get w0 σ) v ps) (hl : ps.length ≤ 1000000) (h : RT n (Av.get w0 σ) es x) (h' : RT m (Av.get w0 σ) es' y) {R : Value → Vw → Prop}
    (hR : ∀ v' G s', Keeps σ s' → OAcc w0 t_impl_Entry 5 (OEn w0) s' G v' (partE ps x y) → (∀ i, i ∈ G → σ i = none) → R v' s') : AC Tryz.prog w0 n_spec_l3Part [v, .agg ⟨es⟩, .agg ⟨es'⟩] σ R := by
  obtain ⟨u, w, rfl, hm, ht, _, _, hp⟩ := h.cells
  obtain ⟨u', w', rfl, hm', ht', _, _, hp'⟩ := h'.cells
  refine ac_spec_l3Part ?_
  unfold vc_spec_l3Part
  rw [hp, hp']
  simp only [cellOf_agg, List.getD_cons_zero, List.getD_cons_succ]
  intro b hb1 hb2
  have kb : Keeps σ (σ.put b ⟨t_impl_Entry, [], 0, (0, 0)⟩) := Keeps.put hb2
  have o0 : OAcc w0 t_impl_Entry 5 (OEn w0) (σ.put b ⟨t_impl_Entry, [], 0, (0, 0)⟩) [b] (.slice (some ⟨b, 0, none⟩) 0 0) [] := OAcc.new hb1
  have f0 : ∀ i, i ∈ [b] → σ i = none := fun i hi => by rw [List.mem_singleton.1 hi]; exact hb2
  have z0 : (0 : Nat) ≤ 9223372036854775807 := by omega
  rw [pBin_ne, pIf_d]
  refine ⟨fun hne => ?_, fun heq => ?_⟩
  · refine part_push (k := 3) (m := modeOf y) (t := ⟨#[]⟩) hv hl kb f0 o0 rfl rfl ⟨by show _ ≤ (3 : Int) ∧ (3 : Int) ≤ _; omega, hm', by show 0 ≤ _; omega⟩ (by simp) fun v1 G1 s1 k1 o1 f1 => ?_
    rw [List.nil_append] at o1
    rw [pBin_sne, pIf_d]
    refine ⟨fun hne2 => ?_, fun heq2 => ?_⟩
    · refine part_push (k := 4) (m := 0) (t := dataOf y) hv hl k1 f1 o1 rfl rfl ⟨by show _ ≤ (4 : Int) ∧ (4 : Int) ≤ _; omega, by show _ ≤ (0 : Int) ∧ (0 : Int) ≤ _; omega, ht'⟩ (by simp) fun v2 G2 s2 k2 o2 f2 => ?_
      have e : partE ps x y = [(ps, 3, false, modeOf y, ⟨#[]⟩)] ++ [(ps, 4, false, 0, dataOf y)] := by rw [partE, if_neg hne, if_neg hne2]
      exact hR v2 G2 s2 k2 (by rw [e]; exact o2) f2
    · have e : partE ps x y = [(ps, 3, false, modeOf y, ⟨#[]⟩)] := by rw [partE, if_neg hne, if_pos (Decidable.not_not.1 heq2)]; rfl
      exact hR v1 G1 s1 k1 (by rw [e]; exact o1) f1
  · rw [pBin_sne, pIf_d]
    have heq := Decidable.not_not.1 heq
    refine ⟨fun hne2 => ?_, fun heq2 => ?_⟩
    · refine part_push (k := 4) (m := 0) (t := dataOf y) hv hl kb f0 o0 rfl rfl ⟨by show _ ≤ (4 : Int) ∧ (4 : Int) ≤ _; omega, by show _ ≤ (0 : Int) ∧ (0 : Int) ≤ _; omega, ht'⟩ (by simp) fun v2 G2 s2 k2 o2 f2 => ?_
      have e : partE ps x y = [] ++ [(ps, 4, false, 0, dataOf y)] := by rw [partE, if_pos heq, if_neg hne2]
      exact hR v2 G2 s2 k2 (by rw [e]; exact o2) f2
    · have e : partE ps x y = [] := by rw [partE, if_pos heq, if_pos (Decidable.not_not.1 heq2)]; rfl
      exact hR _ [b] _ kb (by rw [e]; exact o0) f0

theorem zip_drop {ns : List ByteArray} {ks : List Tr} {j : Nat} {x : ByteArray} {k : Tr} (h : ns[j]? = some x) (h' : ks[j]? = some k) : (ns.zip ks).drop j = (x, k) :: (ns.zip ks).drop (j + 1) := by
  have hz : (ns.zip ks)[j]? = some (x, k) := by rw [List.getElem?_zip_eq_some]; exact ⟨h, h'⟩
  obtain ⟨hlt, e⟩ := List.getElem?_eq_some_iff.1 hz
  rw [List.drop_eq_getElem_cons hlt, e]
theorem mrgK_nil (l : List (ByteArray × Tr)) : mrgK l [] = l.map fun y => (y.1, some y.2, none) := by cases l <;> simp [mrgK]
theorem mrgK_gone {a : ByteArray × Tr} {xa xb : List (ByteArray × Tr)} (h : ∀ b r, xb = b :: r → strLt a.1 b.1 = true) : mrgK (a :: xa) xb = (a.1, some a.2, none) :: mrgK xa xb := by
  cases xb with
  | nil => rw [mrgK_nil, mrgK_nil]; rfl
  | cons b r => rw [mrgK, if_pos (h b r rfl)]
theorem mrgK_new {b : ByteArray × Tr} {xa xb : List (ByteArray × Tr)} (h : ∀ a r, xa = a :: r → strLt b.1 a.1 = true) : mrgK xa (b :: xb) = (b.1, none, some b.2) :: mrgK xa xb := by
  cases xa with
  | nil => rw [mrgK, mrgK]; rfl
  | cons a r => rw [mrgK, if_neg (by rw [strLt_asymm (h a r rfl)]; simp), if_pos (h a r rfl)]
theorem mrgK_both {a b : ByteArray × Tr} {xa xb : List (ByteArray × Tr)} (h : strLt a.1 b.1 = false) (h' : strLt b.1 a.1 = false) : mrgK (a :: xa) (b :: xb) = (a.1, some a.2, some b.2) :: mrgK xa xb := by
  rw [mrgK, if_neg (by rw [h]; simp), if_neg (by rw [h']; simp)]

set_option maxHeartbeats 4000000 in
theorem spec_walk : ∀ (n : Nat) {σ : Vw} {v : Value} {es es' : List Value} {ps : List ByteArray} {x y : Tr} {R : Value → Vw → Prop}, RSl 1 RS (Av.get w0 σ) v ps → RT n (Av.get w0 σ) es x → RT n (Av.get w0 σ) es' y → shortT n x → shortT n y → cntT n x ≤ 100000 → cntT n y ≤ 100000 →
    ps.length + sumS ps + 6 * n ≤ 1000000 → (∀ v' G s', Keeps σ s' → OAcc w0 t_impl_Entry 5 (OEn w0) s' G v' (walkE n ps (some x) (some y)) → (∀ i, i ∈ G → σ i = none) → R v' s') →
    AC Tryz.prog w0 n_spec_l3Walk [v, .agg ⟨es⟩, .agg ⟨es'⟩] σ R := by
  intro n
  induction n with
  | zero => intro σ v es es' ps x y R _ h; exact h.elim
  | succ n ih =>
    intro σ v es es' ps x y R hv h h' hx hx' hc hc' hps hR
    have hwl := walkE_len (n + 1) ps (some x) (some y)
    obtain ⟨d, m, t, ns, ks⟩ := x
    obtain ⟨d', m', t', ns', ks'⟩ := y
    have h0 := h
    have h0' := h'
    have hx0' := hx'
    obtain ⟨u, w, rfl, h2, h3, h4, h5⟩ := h
    obtain ⟨u', w', rfl, h2', h3', h4', h5'⟩ := h'
    obtain ⟨hm, ht, hl, hns, hks⟩ := hx
    obtain ⟨hm', ht', hl', hns', hks'⟩ := hx'
    have hcnt : cntT (n + 1) (.mk d m t ns ks) = ks.length + sumBy (cntT n) ks := rfl
    have hcnt' : cntT (n + 1) (.mk d' m' t' ns' ks') = ks'.length + sumBy (cntT n) ks' := rfl
    refine ac_spec_l3Walk ?_
    unfold vc_spec_l3Walk
    rw [pVal_5 rfl rfl rfl h4.one h5.one, pVal_5 rfl rfl rfl h4'.one h5'.one]
    simp only [cellOf_agg, List.getD_cons_zero, List.getD_cons_succ]
    have eb : ∀ K : Value → Prop, pBin Tryz.prog 4 .neq (.bool d) (.bool d') K ↔ K (.bool !(d == d')) := fun K => pBin_b (by kernel_rfl) rfl
    rw [eb, pIf_b]
    refine ⟨fun hne => ?_, fun heq => ?_⟩
    · have hne' : ¬ d = d' := by simpa using hne
      have ew : walkE (n + 1) ps (some (.mk d m t ns ks)) (some (.mk d' m' t' ns' ks')) = [goneE ps] ++ linT fNew (n + 1) ps (.mk d' m' t' ns' ks') := by
        simp only [walkE]; rw [if_neg (show ¬ isDir (.mk d m t ns ks) = isDir (.mk d' m' t' ns' ks') from hne')]; rfl
      rw [ew] at hR hwl
      rw [List.length_append] at hwl
      refine spec_gone hv (by omega) fun v1 G1 s1 k1 o1 f1 => ?_
      refine spec_new (n + 1) (hv.mono k1.le fun _ _ h => h) (mono_rt _ _ _ _ _ k1.le h0') hx0' hc' hps fun v2 G2 s2 k2 o2 f2 => ?_
      have o1' := o1.frame (ok_en w0) (k2.but_at fun i hi => (o1.dom (ok_en w0) i hi).2)
      refine o1'.allOwn (ok_en w0) o2.osl (fun i hi hi' => (o1.dom (ok_en w0) i hi').2 (f2 i hi)) (by simp only [cntO] at hwl; omega) (by omega) fun v3 G3 s3 k3 o3 f3 => ?_
      refine hR v3 G3 s3 (k3.old (k1.trans k2) f1) o3 fun i hi => ?_
      rcases f3 i hi with h | h | h
      · exact f1 i h
      · exact none_old k1 (f2 i h)
      · exact none_old (k1.trans k2) h
    have heq' : d = d' := by simpa using heq
    have ew : walkE (n + 1) ps (some (.mk d m t ns ks)) (some (.mk d' m' t' ns' ks')) = partE ps (.mk d m t ns ks) (.mk d' m' t' ns' ks') ++ ((mrgK (ns.zip ks) (ns'.zip ks')).map fun z => walkE n (ps ++ [z.1]) z.2.1 z.2.2).flatten := by
      simp only [walkE]; rw [if_pos (show isDir (.mk d m t ns ks) = isDir (.mk d' m' t' ns' ks') from heq')]; rfl
    rw [ew] at hR hwl
    generalize hpe : partE ps (.mk d m t ns ks) (.mk d' m' t' ns' ks') = pe at hR hwl
    refine spec_part hv (by omega) h0 h0' fun v1 G1 s1 k1 o1 f1 => ?_
    rw [hpe] at o1
    have hl4 := h4.le
    have hl4' := h4'.le
    -- what is left to do
    generalize hW : (fun z : Pr => walkE n (ps ++ [z.1]) z.2.1 z.2.2) = W at hR hwl
    refine loop_rule (m := ns.length + ns'.length) (fun c l st => ∃ (i k : Nat) (G : List Nat) (acc : Value) (out : List En), ns.length + ns'.length ≤ c + i + k ∧ i ≤ ns.length ∧ k ≤ ns'.length ∧ Keeps σ st ∧ (∀ j, j ∈ G → σ j = none) ∧ OAcc w0 t_impl_Entry 5 (OEn w0) st G acc out ∧
        out ++ ((mrgK ((ns.zip ks).drop i) ((ns'.zip ks').drop k)).map W).flatten = pe ++ ((mrgK (ns.zip ks) (ns'.zip ks')).map W).flatten ∧
        l = [v, acc, .int .i64 (i : Nat), .int .i64 (k : Nat), .bool d, .int .i64 m, .string t, u, w, .bool d', .int .i64 m', .string t', u', w']) ?_
      ⟨0, 0, G1, v1, pe, by omega, by omega, by omega, k1, f1, o1, by simp, rfl⟩
    rintro c l st L ⟨i, k, G, acc, out, hcik, hi, hk, ks0, hG, ho, hout, rfl⟩ hL
    simp only [vget, List.getD_cons_zero, List.getD_cons_succ]
    have hv' := hv.mono ks0.le fun _ _ h => h
    have hu := h4.mono ks0.le fun _ _ h => h
    have hu' := h4'.mono ks0.le fun _ _ h => h
    have hw := h5.mono ks0.le fun es x => mono_rt n _ _ es x ks0.le
    have hw' := h5'.mono ks0.le fun es x => mono_rt n _ _ es x ks0.le
    have hoL : out.length + ((mrgK ((ns.zip ks).drop i) ((ns'.zip ks').drop k)).map W).flatten.length ≤ 900000 := by
      have := congrArg List.length hout
      rw [List.length_append, List.length_append] at this
      rw [List.length_append] at hwl
      simp only [cntO] at hwl
      omega
    -- a part that is gone
    have hGo : ∀ (xn : ByteArray) (xk : Tr), ns[i]? = some xn → ks[i]? = some xk → (∀ b r, (ns'.zip ks').drop k = b :: r → strLt xn b.1 = true) →
        pIndexAddr 1 u (.int .i64 (i : Nat)) (fun v16 => pLoad w0 1 v16 st (fun g17 => AC Tryz.prog w0 n_spec_l3Path [v, g17 0] st (fun v18 s19 => AC Tryz.prog w0 n_spec_l3Gone [v18] s19 (fun v20 s21 => pAppendS w0 t_impl_Entry 5 64 acc v20 s21 (fun v22 s23 => pBin Tryz.prog 3 .add (.int .i64 (i : Nat)) (.int .i64 1) (fun v24 =>
          L [v, v22, v24, .int .i64 (k : Nat), .bool d, .int .i64 m, .string t, u, w, .bool d', .int .i64 m', .string t', u', w'] s23)))))) := by
      intro xn xk hxn hxk hlt
      have hil := (List.getElem?_eq_some_iff.1 hxn).1
      have h5y := hns _ (List.mem_of_getElem? hxn)
      refine RSl.at1 hu hxn fun g hg hgs => ?_
      rw [hg]
      refine spec_path hv' (by omega) (by omega) fun pv PF s2 k2 op fp => ?_
      refine spec_gone (op.rel (ok_str w0)) (by rw [List.length_append]; simp only [List.length_cons, List.length_nil]; omega) fun v3 G3 s3 k3 o3 f3 => ?_
      have K23 := k2.trans k3
      have o4 := ho.frame (ok_en w0) (K23.but_at fun b hb => (ho.dom (ok_en w0) b hb).2)
      have hmk : mrgK ((ns.zip ks).drop i) ((ns'.zip ks').drop k) = (xn, some xk, none) :: mrgK ((ns.zip ks).drop (i + 1)) ((ns'.zip ks').drop k) := by
        rw [zip_drop hxn hxk, mrgK_gone hlt]
      have hn : n ≠ 0 := fun e => by subst e; exact hks _ (List.mem_of_getElem? hxk)
      have hw1 : W (xn, some xk, none) = [goneE (ps ++ [xn])] := by
        obtain ⟨n', rfl⟩ := Nat.exists_eq_succ_of_ne_zero hn
        rw [← hW]; simp only [walkE]
      rw [hmk, List.map_cons, List.flatten_cons, hw1] at hout hoL
      rw [List.length_append] at hoL
      refine o4.allOwn (ok_en w0) o3.osl (fun j hj hj' => (ho.dom (ok_en w0) j hj').2 (none_old k2 (f3 j hj))) (by simp only [List.length_cons, List.length_nil] at hoL ⊢; omega) (by omega) fun v5 G5 s5 k5 o5 f5 => ?_
      rw [pBin_add (by omega)]
      refine hL _ _ (c - 1) (by omega) ⟨i + 1, k, G5, v5, _, by omega, by omega, hk, k5.old (ks0.trans K23) hG, fun j hj => ?_, o5, by rw [List.append_assoc]; exact hout, by simp⟩
      rcases f5 j hj with h | h | h
      · exact hG j h
      · exact none_old (ks0.trans k2) (f3 j h)
      · exact none_old (ks0.trans K23) h
    -- a part that is new
    have hNe : ∀ (yn : ByteArray) (yk : Tr), ns'[k]? = some yn → ks'[k]? = some yk → (∀ a r, (ns.zip ks).drop i = a :: r → strLt yn a.1 = true) →
        pIndexAddr 1 u' (.int .i64 (k : Nat)) (fun v43 => pLoad w0 1 v43 st (fun g44 => pIndexAddr 5 w' (.int .i64 (k : Nat)) (fun v45 => pLoad w0 5 v45 st (fun g46 => AC Tryz.prog w0 n_spec_l3Path [v, g44 0] st (fun v47 s48 => (Stay w0 st s48 v45 5) ∧ (AC Tryz.prog w0 n_spec_l3New ([v47, .agg (⟨[g46 0, g46 1, g46 2, g46 3, g46 4]⟩)]) s48 (fun v49 s50 => pAppendS w0 t_impl_Entry 5 64 acc v49 s50 (fun v51 s52 => pBin Tryz.prog 3 .add (.int .i64 (k : Nat)) (.int .i64 1) (fun v53 =>
          L [v, v51, .int .i64 (i : Nat), v53, .bool d, .int .i64 m, .string t, u, w, .bool d', .int .i64 m', .string t', u', w'] s52))))))))) := by
      intro yn yk hyn hyk hlt
      have hkl := (List.getElem?_eq_some_iff.1 hyn).1
      have h5y := hns' _ (List.mem_of_getElem? hyn)
      have hky := hks' _ (List.mem_of_getElem? hyk)
      have hcy : cntT n yk ≤ 100000 := by
        have := sumBy_mem (f := cntT n) (List.mem_of_getElem? hyk); omega
      refine RSl.at1 hu' hyn fun g hg hgs => ?_
      rw [hg]
      refine RSl.atp hw' hyk fun p2 g2 hg2 => ?_
      refine spec_path hv' (by omega) (by omega) fun pv PF s2 k2 op fp => ⟨k2.stay, ?_⟩
      have hmk : mrgK ((ns.zip ks).drop i) ((ns'.zip ks').drop k) = (yn, none, some yk) :: mrgK ((ns.zip ks).drop i) ((ns'.zip ks').drop (k + 1)) := by
        rw [zip_drop hyn hyk, mrgK_new hlt]
      have hn : n ≠ 0 := fun e => by subst e; exact hky
      have hw1 : W (yn, none, some yk) = linT fNew n (ps ++ [yn]) yk := by
        obtain ⟨n', rfl⟩ := Nat.exists_eq_succ_of_ne_zero hn
        rw [← hW]; simp only [walkE]
      rw [hmk, List.map_cons, List.flatten_cons, hw1] at hout hoL
      rw [List.length_append] at hoL
      refine spec_new n (op.rel (ok_str w0)) (mono_rt _ _ _ _ _ k2.le hg2) hky hcy (by rw [List.length_append, sumS_snoc]; simp only [List.length_cons, List.length_nil]; omega) fun v3 G3 s3 k3 o3 f3 => ?_
      have K23 := k2.trans k3
      have o4 := ho.frame (ok_en w0) (K23.but_at fun b hb => (ho.dom (ok_en w0) b hb).2)
      refine o4.allOwn (ok_en w0) o3.osl (fun j hj hj' => (ho.dom (ok_en w0) j hj').2 (none_old k2 (f3 j hj))) (by omega) (by omega) fun v5 G5 s5 k5 o5 f5 => ?_
      rw [pBin_add (by omega)]
      refine hL _ _ (c - 1) (by omega) ⟨i, k + 1, G5, v5, _, by omega, hi, by omega, k5.old (ks0.trans K23) hG, fun j hj => ?_, o5, by rw [List.append_assoc]; exact hout, by simp⟩
      rcases f5 j hj with h | h | h
      · exact hG j h
      · exact none_old (ks0.trans k2) (f3 j h)
      · exact none_old (ks0.trans K23) h
    rw [hu.len, pBin_lt, pIf_d]
    refine ⟨fun hia => ?_, fun hia => ?_⟩
    · have hxn := List.getElem?_eq_getElem (show i < ns.length by omega)
      have hxk := List.getElem?_eq_getElem (show i < ks.length by omega)
      generalize ns[i]'(by omega) = xn at hxn
      generalize ks[i]'(by omega) = xk at hxk
      rw [hu'.len, pBin_ge, pIf_d]
      refine ⟨fun hkb => ?_, fun hkb => ?_⟩
      · refine hGo xn xk hxn hxk fun b r e => ?_
        rw [List.drop_of_length_le (by rw [List.length_zip]; omega)] at e
        cases e
      have hyn := List.getElem?_eq_getElem (show k < ns'.length by omega)
      have hyk := List.getElem?_eq_getElem (show k < ks'.length by omega)
      generalize ns'[k]'(by omega) = yn at hyn
      generalize ks'[k]'(by omega) = yk at hyk
      rw [hu.len, pBin_lt, pIf_d]
      refine ⟨fun _ => ?_, fun h => absurd hia h⟩
      refine RSl.at1 hu hxn fun g hg hgs => ?_
      refine RSl.at1 hu' hyn fun g' hg' hgs' => ?_
      rw [hg, hg', pBin_slt, pIf_b]
      refine ⟨fun hlt => ?_, fun hnlt => ?_⟩
      · refine hGo xn xk hxn hxk fun b r e => ?_
        rw [zip_drop hyn hyk] at e
        cases e; exact hlt
      rw [hu.len, pBin_ge, pIf_d]
      refine ⟨fun h => by omega, fun _ => ?_⟩
      refine RSl.at1 hu' hyn fun g2 hg2 hgs2 => ?_
      refine RSl.at1 hu hxn fun g3 hg3 hgs3 => ?_
      rw [hg2, hg3, pBin_slt, pIf_b]
      refine ⟨fun hlt => ?_, fun hnlt2 => ?_⟩
      · refine hNe yn yk hyn hyk fun a r e => ?_
        rw [zip_drop hxn hxk] at e
        cases e; exact hlt
      -- in both
      have h5y := hns _ (List.mem_of_getElem? hxn)
      have hkx := hks _ (List.mem_of_getElem? hxk)
      have hky := hks' _ (List.mem_of_getElem? hyk)
      have hcx : cntT n xk ≤ 100000 := by
        have := sumBy_mem (f := cntT n) (List.mem_of_getElem? hxk); omega
      have hcy : cntT n yk ≤ 100000 := by
        have := sumBy_mem (f := cntT n) (List.mem_of_getElem? hyk); omega
      refine RSl.at1 hu hxn fun g hg hgs => ?_
      rw [hg]
      refine RSl.atp hw hxk fun p1 g1 hg1 => ?_
      refine RSl.atp hw' hyk fun p2 g2 hg2 => ?_
      refine spec_path hv' (by omega) (by omega) fun pv PF s2 k2 op fp => ⟨k2.stay, k2.stay, ?_⟩
      have hmk : mrgK ((ns.zip ks).drop i) ((ns'.zip ks').drop k) = (xn, some xk, some yk) :: mrgK ((ns.zip ks).drop (i + 1)) ((ns'.zip ks').drop (k + 1)) := by
        rw [zip_drop hxn hxk, zip_drop hyn hyk, mrgK_both hnlt hnlt2]
      have hw1 : W (xn, some xk, some yk) = walkE n (ps ++ [xn]) (some xk) (some yk) := by rw [← hW]
      rw [hmk, List.map_cons, List.flatten_cons, hw1] at hout hoL
      rw [List.length_append] at hoL
      refine ih (op.rel (ok_str w0)) (mono_rt _ _ _ _ _ k2.le hg1) (mono_rt _ _ _ _ _ k2.le hg2) hkx hky hcx hcy (by rw [List.length_append, sumS_snoc]; simp only [List.length_cons, List.length_nil]; omega) fun v3 G3 s3 k3 o3 f3 => ?_
      have K23 := k2.trans k3
      have o4 := ho.frame (ok_en w0) (K23.but_at fun b hb => (ho.dom (ok_en w0) b hb).2)
      refine o4.allOwn (ok_en w0) o3.osl (fun j hj hj' => (ho.dom (ok_en w0) j hj').2 (none_old k2 (f3 j hj))) (by omega) (by omega) fun v5 G5 s5 k5 o5 f5 => ?_
      rw [pBin_add (by omega), pBin_add (by omega)]
      refine hL _ _ (c - 1) (by omega) ⟨i + 1, k + 1, G5, v5, _, by omega, by omega, by omega, k5.old (ks0.trans K23) hG, fun j hj => ?_, o5, by rw [List.append_assoc]; exact hout, by simp⟩
      rcases f5 j hj with h | h | h
      · exact hG j h
      · exact none_old (ks0.trans k2) (f3 j h)
      · exact none_old (ks0.trans K23) h
    · rw [hu'.len, pBin_lt, pIf_d]
      refine ⟨fun hkb => ?_, fun hkb => ?_⟩
      · have hyn := List.getElem?_eq_getElem (show k < ns'.length by omega)
        have hyk := List.getElem?_eq_getElem (show k < ks'.length by omega)
        generalize ns'[k]'(by omega) = yn at hyn
        generalize ks'[k]'(by omega) = yk at hyk
        rw [hu'.len, pBin_ge, pIf_d]
        refine ⟨fun h => by omega, fun _ => ?_⟩
        rw [hu.len, pBin_lt, pIf_d]
        refine ⟨fun h => absurd h hia, fun _ => ?_⟩
        rw [hu.len, pBin_ge, pIf_d]
        refine ⟨fun _ => ?_, fun h => by omega⟩
        refine hNe yn yk hyn hyk fun a r e => ?_
        rw [List.drop_of_length_le (by rw [List.length_zip]; omega)] at e
        cases e
      · rw [List.drop_of_length_le (by rw [List.length_zip]; omega), List.drop_of_length_le (by rw [List.length_zip]; omega), mrgK] at hout
        simp only [List.map_nil, List.flatten_nil, List.append_nil] at hout
        exact hR acc G st ks0 (by rw [← hout]; exact ho) hG
end
end Go.Proofs.YtkbhjejalkbogaaGreat

/- What becomes of a part, with all below: by the program's hand. -/
set_option linter.unusedVariables false
set_option linter.unusedSimpArgs false
set_option maxRecDepth 20000
namespace Go.Proofs.YtkbhjejalkbogaaGreat
open Go Go.Av

/-- The names ascend, all the way down. -/
def ascT : Nat → Tr → Prop
  | 0, _ => True
  | n + 1, .mk d m t ns ks => AscS ns ∧ ∀ k, k ∈ ks → ascT n k
theorem sound_asc : ∀ (m n : Nat) (x : Tr) (k : Int), soundB n x k = true → ascT m x
  | 0, _, _, _, _ => trivial
  | m + 1, 0, x, k, h => by simp [soundB] at h
  | m + 1, n + 1, .mk d mo t ns ks, k, h => by
    simp only [soundB, plainB, Bool.and_eq_true, decide_eq_true_eq] at h
    refine ⟨?_, fun c hc => ?_⟩
    · cases d
      · have := h.1.2.2
        simp at this
        rw [this.2]; exact List.Pairwise.nil
      · have := h.1.2.2
        simp at this
        exact asc_names this.1
    · obtain ⟨j, hj⟩ := List.getElem?_of_mem hc
      exact sound_asc m n c _ (allB_iff.1 h.2.2 j c hj)
theorem sound_down5 : ∀ (m n : Nat) (x : Tr) (k : Int), soundB n x k = true → 5 ≤ k + (m : Int) → (∀ rd es, RT n rd es x → RT m rd es x) ∧ shortT m x ∧ cntT m x ≤ cntT n x
  | m, 0, x, k, h, _ => by simp [soundB] at h
  | 0, n + 1, .mk d mo t ns ks, k, h, hk => by
    simp only [soundB, Bool.and_eq_true, decide_eq_true_eq] at h
    exact absurd h.2.1 (by omega)
  | m + 1, n + 1, .mk d mo t ns ks, k, h, hk => by
    have hs := sound_short (n + 1) _ k h
    simp only [soundB, Bool.and_eq_true, decide_eq_true_eq] at h
    have ih : ∀ y, y ∈ ks → (∀ rd es, RT n rd es y → RT m rd es y) ∧ shortT m y ∧ cntT m y ≤ cntT n y := fun y hy => by
      obtain ⟨j, hj⟩ := List.getElem?_of_mem hy
      exact sound_down5 m n y (k + 1) (allB_iff.1 h.2.2 j y hj) (by omega)
    refine ⟨fun rd es hr => ?_, ⟨hs.1, hs.2.1, hs.2.2.1, hs.2.2.2.1, fun y hy => (ih y hy).2.1⟩, ?_⟩
    · obtain ⟨u, w, h1, h2, h3, h4, A, cap, e1, e2, e3⟩ := hr
      refine ⟨u, w, h1, h2, h3, h4, A, cap, e1, e2, fun j y hj => ?_⟩
      obtain ⟨a, es', q1, q2, q3, q4⟩ := e3 j y hj
      exact ⟨a, es', q1, q2, q3, (ih y (List.mem_of_getElem? hj)).1 _ _ q4⟩
    · have := sumBy_mono (f := cntT m) (g := cntT n) (xs := ks) fun y hy => (ih y hy).2.2
      show ks.length + sumBy (cntT m) ks ≤ ks.length + sumBy (cntT n) ks
      omega
theorem short_wf : ∀ (n : Nat) (x : Tr), shortT n x → wfT n x
  | 0, _, _ => trivial
  | n + 1, .mk d m t ns ks, h => ⟨h.2.2.1, fun k hk => short_wf n k (h.2.2.2.2 k hk)⟩
theorem nidx_mem : ∀ {ns : List ByteArray} {x : ByteArray}, x ∈ ns → ∃ j, nidx ns x = some j
  | s :: r, x, h => by
    unfold nidx
    by_cases e : s = x
    · exact ⟨0, if_pos e⟩
    · obtain ⟨j, hj⟩ := nidx_mem ((List.mem_cons.1 h).resolve_left fun h => e h.symm)
      exact ⟨j + 1, by rw [if_neg e, hj]; rfl⟩
theorem kid_lk {n : Nat} {x : Tr} (h : shortT n x) (nm : ByteArray) : kidT x nm = lk (partsOf x) nm := by
  obtain _ | n := n
  · exact h.elim
  obtain ⟨d, m, t, ns, ks⟩ := x
  exact (lk_zip h.2.2.1 nm).symm
theorem part_names {n : Nat} {x : Tr} (h : shortT n x) : (partsOf x).map (·.1) = namesOf x := by
  obtain _ | n := n
  · exact h.elim
  obtain ⟨d, m, t, ns, ks⟩ := x
  exact zip_fst h.2.2.1

section
variable {w0 : World} {σ : Vw}

theorem impl_gone {v : Value} {ps : List ByteArray} (hv : RSl 1 RS (Av.get w0 σ) v ps) (hl : ps.length ≤ 1000000) {R : Value → Vw → Prop}
    (hR : ∀ v' P s', Keeps σ s' → OStrs w0 s' P v' ps → (∀ i, i ∈ P → σ i = none) → R (.agg ⟨[v', .int .i64 1, .bool false, .int .i64 0, .string ⟨#[]⟩]⟩) s') : AC Tryz.prog w0 n_impl_gone [v] σ R := by
  refine ac_impl_gone ?_
  unfold vc_impl_gone
  refine copy_strs hv (by omega) fun v1 P s1 k1 o1 f1 => ?_
  rw [pVal1 (OSl.one' o1), pVal1 rfl, pVal_5 (OSl.one' o1) rfl rfl rfl rfl]
  exact hR v1 P s1 k1 o1 f1

theorem fresh_puts : Puts w0 n_impl_fresh_c1 t_impl_Entry (OEn w0) fNew := by
  intro n b s G ps v es x xs R hn5 h hx hc hv hps hB hl hR
  obtain ⟨hb, hbG, u, e2, hr, ho⟩ := hB
  have h0 := h
  obtain ⟨q1, q2, rfl, hm, ht, _, _, hpv⟩ := h.cells
  refine ac_impl_fresh_c1 ?_
  unfold vc_impl_fresh_c1
  rw [hpv]
  simp only [cellOf_agg, List.getD_cons_zero, List.getD_cons_succ]
  refine load_row hb hr rfl fun g hg => ?_
  rw [hg]
  intro n1 h1 h2
  have kb : Keeps s (s.put n1 ⟨t_string, [], 0, (0, 0)⟩) := Keeps.put h2
  have hb0 : ∀ i, i ∈ [n1] → s i = none := fun i hi => by rw [List.mem_singleton.1 hi]; exact h2
  refine ⟨stay_row hb hr (kb _ _ hr), ?_⟩
  refine (OAcc.new (w0 := w0) (σ := s) (ety := t_string) (n := 1) (O := OStr) h1).all (ok_str w0) hv kb.le (fun es y hy => ⟨rfl, hy⟩) (by simp; omega) (by omega) fun v3 P s4 k4 o4 f4 => ?_
  have K4 : Keeps s s4 := k4.old kb hb0
  have hP := fresh_in kb hb0 f4
  rw [List.nil_append] at o4
  refine ⟨stay_row hb (kb _ _ hr) (K4 _ _ hr), ?_⟩
  rw [pVal1 (OSl.one' o4.osl), pVal1 rfl, pVal1 rfl, pVal1 rfl, pVal1 rfl, pVal_5 (OSl.one' o4.osl) rfl rfl rfl rfl]
  refine box_push (ok_en w0) (y := fNew n ps x) hb hbG (K4 _ _ hr) (ho.frame (ok_en w0) (K4.but_at fun i hi => (ho.dom (ok_en w0) i hi).2)) (fNew_own o4.osl hm ht) (fun i hi hi' => ?_) hl fun G' s' kk hB' f' => ?_
  · have := hP i hi
    rcases List.mem_cons.1 hi' with rfl | hi'
    · rw [hr] at this; cases this
    · exact (ho.dom (ok_en w0) i hi').2 this
  · refine hR G' s' (fun i r hi hn => kk i r (K4 i r hi) hn) hB' fun i hi => ?_
    rcases f' i hi with h | h | h
    · exact .inl h
    · exact .inr (hP i h)
    · exact .inr (none_old K4 h)

theorem impl_fresh {n : Nat} {v : Value} {ps : List ByteArray} {es : List Value} {x : Tr} (hv : RSl 1 RS (Av.get w0 σ) v ps) (h : RT n (Av.get w0 σ) es x) (hn : n ≤ 5) (hx : shortT n x) (hc : cntT n x ≤ 100000) (hps : ps.length + sumS ps + 6 * n ≤ 1000000) {R : Value → Vw → Prop}
    (hR : ∀ v' G σ', Keeps σ σ' → OAcc w0 t_impl_Entry 5 (OEn w0) σ' G v' (linT fNew n ps x) → (∀ i, i ∈ G → σ i = none) → R v' σ') : AC Tryz.prog w0 n_impl_fresh [v, .agg ⟨es⟩] σ R := by
  have h0 := h
  obtain ⟨e0, e1, e2, e3, e4, rfl, _, hpv⟩ := RT.five h
  refine ac_impl_fresh ?_
  unfold vc_impl_fresh
  rw [hpv]
  simp only [cellOf_agg, List.getD_cons_zero, List.getD_cons_succ]
  refine box_new (O := OEn w0) fun b b0 s1 k1 hB hb hb0 => ?_
  have hf : ∀ i, i ∈ [b, b0] → σ i = none := fun i hi => by
    simp at hi
    rcases hi with rfl | rfl
    · exact hb
    · exact hb0
  refine each_list (ok_en w0) fresh_puts n (σ0 := σ) (ps := ps) hn h0 hx hc k1 hf hB (PathIn.of_keeps hv k1 hf) hps (by simp only [List.length_nil]; omega) fun G' s2 k2 hB2 f2 => ?_
  refine box_read (K := fun v => R v s2) hB2 fun v' ho => ?_
  rw [List.nil_append] at ho
  refine hR v' G' s2 (k2.old k1 hf) ho fun i hi => ?_
  rcases f2 i hi with h | h
  · exact hf i (List.mem_cons_of_mem _ h)
  · exact none_old k1 h

theorem impl_changes {n m : Nat} {v : Value} {ps : List ByteArray} {es es' : List Value} {x y : Tr} (hv : RSl 1 RS (Av.get w0 σ) v ps) (hl : ps.length ≤ 1000000) (h : RT n (Av.get w0 σ) es x) (h' : RT m (Av.get w0 σ) es' y) {R : Value → Vw → Prop}
    (hR : ∀ v' G s', Keeps σ s' → OAcc w0 t_impl_Entry 5 (OEn w0) s' G v' (partE ps x y) → (∀ i, i ∈ G → σ i = none) → R v' s') : AC Tryz.prog w0 n_impl_changes [v, .agg ⟨es⟩, .agg ⟨es'⟩] σ R := by
  obtain ⟨u, w, rfl, hm, ht, _, _, hp⟩ := h.cells
  obtain ⟨u', w', rfl, hm', ht', _, _, hp'⟩ := h'.cells
  refine ac_impl_changes ?_
  unfold vc_impl_changes
  rw [hp, hp']
  simp only [cellOf_agg, List.getD_cons_zero, List.getD_cons_succ]
  intro b hb1 hb2
  have kb : Keeps σ (σ.put b ⟨t_impl_Entry, [], 0, (0, 0)⟩) := Keeps.put hb2
  have o0 : OAcc w0 t_impl_Entry 5 (OEn w0) (σ.put b ⟨t_impl_Entry, [], 0, (0, 0)⟩) [b] (.slice (some ⟨b, 0, none⟩) 0 0) [] := OAcc.new hb1
  have f0 : ∀ i, i ∈ [b] → σ i = none := fun i hi => by rw [List.mem_singleton.1 hi]; exact hb2
  have z0 : (0 : Nat) ≤ 9223372036854775807 := by omega
  rw [pBin_ne, pIf_d]
  refine ⟨fun hne => ?_, fun heq => ?_⟩
  · refine part_push (k := 3) (m := modeOf y) (t := ⟨#[]⟩) hv hl kb f0 o0 rfl rfl ⟨by show _ ≤ (3 : Int) ∧ (3 : Int) ≤ _; omega, hm', by show 0 ≤ _; omega⟩ (by simp) fun v1 G1 s1 k1 o1 f1 => ?_
    rw [List.nil_append] at o1
    rw [pBin_sne, pIf_d]
    refine ⟨fun hne2 => ?_, fun heq2 => ?_⟩
    · refine part_push (k := 4) (m := 0) (t := dataOf y) hv hl k1 f1 o1 rfl rfl ⟨by show _ ≤ (4 : Int) ∧ (4 : Int) ≤ _; omega, by show _ ≤ (0 : Int) ∧ (0 : Int) ≤ _; omega, ht'⟩ (by simp) fun v2 G2 s2 k2 o2 f2 => ?_
      have e : partE ps x y = [(ps, 3, false, modeOf y, ⟨#[]⟩)] ++ [(ps, 4, false, 0, dataOf y)] := by rw [partE, if_neg hne, if_neg hne2]
      exact hR v2 G2 s2 k2 (by rw [e]; exact o2) f2
    · have e : partE ps x y = [(ps, 3, false, modeOf y, ⟨#[]⟩)] := by rw [partE, if_neg hne, if_pos (Decidable.not_not.1 heq2)]; rfl
      exact hR v1 G1 s1 k1 (by rw [e]; exact o1) f1
  · rw [pBin_sne, pIf_d]
    have heq := Decidable.not_not.1 heq
    refine ⟨fun hne2 => ?_, fun heq2 => ?_⟩
    · refine part_push (k := 4) (m := 0) (t := dataOf y) hv hl kb f0 o0 rfl rfl ⟨by show _ ≤ (4 : Int) ∧ (4 : Int) ≤ _; omega, by show _ ≤ (0 : Int) ∧ (0 : Int) ≤ _; omega, ht'⟩ (by simp) fun v2 G2 s2 k2 o2 f2 => ?_
      have e : partE ps x y = [] ++ [(ps, 4, false, 0, dataOf y)] := by rw [partE, if_pos heq, if_neg hne2]
      exact hR v2 G2 s2 k2 (by rw [e]; exact o2) f2
    · have e : partE ps x y = [] := by rw [partE, if_pos heq, if_pos (Decidable.not_not.1 heq2)]; rfl
      exact hR _ [b] _ kb (by rw [e]; exact o0) f0

/-- What is asked of a part, if it is there. -/
def fineO (n : Nat) (o : Option Tr) : Prop := ∀ x, o = some x → shortT n x ∧ cntT n x ≤ 100000 ∧ ascT n x

theorem names_len {n : Nat} {x : Tr} (h : shortT n x) (hc : cntT n x ≤ 100000) : (namesOf x).length ≤ 100000 := by
  obtain _ | n := n
  · exact h.elim
  obtain ⟨d, m, t, ns, ks⟩ := x
  have e1 : cntT (n + 1) (.mk d m t ns ks) = ks.length + sumBy (cntT n) ks := rfl
  have := h.2.2.1
  show ns.length ≤ _
  omega
theorem kid_fine {n : Nat} {x : Tr} (h : fineO (n + 1) (some x)) (nm : ByteArray) : fineO n (kidT x nm) := by
  intro k hk
  obtain ⟨h1, h2, h3⟩ := h x rfl
  have hm := kid_mem hk
  obtain ⟨d, m, t, ns, ks⟩ := x
  have hm' : k ∈ ks := hm
  have e1 : cntT (n + 1) (.mk d m t ns ks) = ks.length + sumBy (cntT n) ks := rfl
  have := sumBy_mem (f := cntT n) hm'
  exact ⟨h1.2.2.2.2 k hm', by omega, h3.2 k hm'⟩
theorem name_short {n : Nat} {x : Tr} (h : shortT n x) {nm : ByteArray} (hm : nm ∈ namesOf x) : nm.size ≤ 5 := by
  obtain _ | n := n
  · exact h.elim
  obtain ⟨d, m, t, ns, ks⟩ := x
  exact h.2.2.2.1 nm hm
theorem kid_there {n : Nat} {x : Tr} (h : shortT n x) {nm : ByteArray} (hm : nm ∈ namesOf x) : kidT x nm ≠ none := by
  obtain _ | n := n
  · exact h.elim
  obtain ⟨d, m, t, ns, ks⟩ := x
  obtain ⟨j, hj⟩ := nidx_mem (show nm ∈ ns from hm)
  obtain ⟨k, _, hk, _⟩ := kid_some (short_wf (n + 1) _ h) hj
  rw [hk]; simp

set_option maxHeartbeats 4000000 in
theorem impl_walk : ∀ (n : Nat) {σ : Vw} {v p q : Value} {ps : List ByteArray} {a b : Option Tr} {R : Value → Vw → Prop}, n ≤ 5 → RSl 1 RS (Av.get w0 σ) v ps → PO n (Av.get w0 σ) p a → PO n (Av.get w0 σ) q b → fineO n a → fineO n b → ¬ (a = none ∧ b = none) →
    ps.length + sumS ps + 6 * n ≤ 1000000 → (∀ v' G s', Keeps σ s' → OAcc w0 t_impl_Entry 5 (OEn w0) s' G v' (walkE n ps a b) → (∀ i, i ∈ G → σ i = none) → R v' s') →
    AC Tryz.prog w0 n_impl_walk [v, p, q] σ R := by
  intro n
  induction n with
  | zero =>
    intro σ v p q ps a b R _ _ ha hb _ _ hne
    exfalso
    cases a with
    | some x => obtain ⟨_, _, _, _, _, h⟩ := ha; exact h
    | none => cases b with
      | some x => obtain ⟨_, _, _, _, _, h⟩ := hb; exact h
      | none => exact hne ⟨rfl, rfl⟩
  | succ n ih =>
    intro σ v p q ps a b R hn5 hv ha hb hfa hfb hne hps hR
    have hwl := walkE_len (n + 1) ps a b
    refine ac_impl_walk ?_
    unfold vc_impl_walk
    cases a with
    | none =>
      obtain rfl : p = .pointer none := ha
      cases b with
      | none => exact absurd ⟨rfl, rfl⟩ hne
      | some y =>
        obtain ⟨f1, f2, f3⟩ := hfb y rfl
        have hb' := hb
        obtain ⟨ad, es, rfl, _⟩ := hb'
        rw [pBin_nil ptr_tree, pIf_b]
        refine ⟨fun _ => ?_, fun h => by cases h⟩
        rw [pNil_s]
        refine PT.load hb fun g hg => ?_
        exact impl_fresh hv hg hn5 f1 f2 hps hR
    | some x =>
      obtain ⟨a1, a2, a3⟩ := hfa x rfl
      have ha' := ha
      obtain ⟨ad, es, rfl, _⟩ := ha'
      rw [pBin_nil ptr_tree, pIf_b]
      refine ⟨fun h => (by cases h), fun _ => ?_⟩
      cases b with
      | none =>
        obtain rfl : q = .pointer none := hb
        rw [pBin_nil ptr_tree, pIf_b]
        refine ⟨fun _ => ?_, fun h => by cases h⟩
        refine impl_gone hv (by omega) fun v1 P s1 k1 o1 f1 => ?_
        rw [pVal_5 (OSl.one' o1) rfl rfl rfl rfl]
        simp only [cellOf_agg, List.getD_cons_zero, List.getD_cons_succ]
        intro b hb1 hb2
        refine hR _ _ _ (k1.trans (Keeps.put hb2)) (OAcc.single (ok_en w0) (ety := t_impl_Entry) hb1 hb2 (gone_own o1)) fun i hi => ?_
        rcases List.mem_cons.1 hi with rfl | hi
        · exact none_old k1 hb2
        · exact f1 i hi
      | some y =>
        obtain ⟨b1, b2, b3⟩ := hfb y rfl
        have hb' := hb
        obtain ⟨bd, es', rfl, _⟩ := hb'
        have ha : PT (n + 1) (Av.get w0 σ) (.pointer (some ad)) x := ha
        have hb : PT (n + 1) (Av.get w0 σ) (.pointer (some bd)) y := hb
        rw [pBin_nil ptr_tree, pIf_b]
        refine ⟨fun h => (by cases h), fun _ => ?_⟩
        refine PT.ld ha 0 (by omega) fun es1 g1 he1 hg1 => ?_
        obtain ⟨u1, w1, rfl, _⟩ := he1.cells
        simp only [List.getElem?_cons_zero, Option.some.injEq] at hg1
        refine PT.ld hb 0 (by omega) fun es2 g2 he2 hg2 => ?_
        obtain ⟨u2, w2, rfl, _⟩ := he2.cells
        simp only [List.getElem?_cons_zero, Option.some.injEq] at hg2
        have eb : ∀ K : Value → Prop, pBin Tryz.prog 4 .neq (.bool (isDir x)) (.bool (isDir y)) K ↔ K (.bool !(isDir x == isDir y)) := fun K => pBin_b (by kernel_rfl) rfl
        rw [← hg1, ← hg2, eb, pIf_b]
        refine ⟨fun hd => ?_, fun hd => ?_⟩
        · have hd' : ¬ isDir x = isDir y := by simpa using hd
          have ew : walkE (n + 1) ps (some x) (some y) = [goneE ps] ++ linT fNew (n + 1) ps y := by
            simp only [walkE]; rw [if_neg hd']; rfl
          rw [ew] at hR hwl
          rw [List.length_append] at hwl
          rw [pNil_s]
          refine PT.load hb fun g hg => ?_
          refine impl_gone hv (by omega) fun v1 P s1 k1 o1 f1 => ⟨k1.stay, ?_, ?_⟩
          · rw [pVal_5 (OSl.one' o1) rfl rfl rfl rfl]
            simp only [cellOf_agg, List.getD_cons_zero, List.getD_cons_succ]
            intro b hb1 hb2
            have kb : Keeps s1 (s1.put b ⟨t_impl_Entry, [v1, .int .i64 1, .bool false, .int .i64 0, .string ⟨#[]⟩], 5, (0, 0)⟩) := Keeps.put hb2
            have K2 := k1.trans kb
            refine ⟨kb.stay, ?_⟩
            have oo := OAcc.single (ok_en w0) (ety := t_impl_Entry) hb1 hb2 (gone_own o1)
            refine impl_fresh (hv.mono K2.le fun _ _ h => h) (mono_rt _ _ _ _ _ K2.le hg) hn5 b1 b2 hps fun v2 G2 s2 k2 o2 f2 => ?_
            have oo' := oo.frame (ok_en w0) (k2.but_at fun i hi => (oo.dom (ok_en w0) i hi).2)
            have hfp : ∀ i, i ∈ b :: P → σ i = none := fun i hi => by
              rcases List.mem_cons.1 hi with rfl | hi
              · exact none_old k1 hb2
              · exact f1 i hi
            refine oo'.allOwn (ok_en w0) o2.osl (fun i hi hi' => (oo.dom (ok_en w0) i hi').2 (f2 i hi)) (by simp only [cntO] at hwl; omega) (by omega) fun v3 G3 s3 k3 o3 f3 => ?_
            refine hR v3 G3 s3 (k3.old (K2.trans k2) hfp) o3 fun i hi => ?_
            rcases f3 i hi with h | h | h
            · exact hfp i h
            · exact none_old K2 (f2 i h)
            · exact none_old (K2.trans k2) h
          · refine impl_fresh (hv.mono k1.le fun _ _ h => h) (mono_rt _ _ _ _ _ k1.le hg) hn5 b1 b2 hps fun v2 G2 s2 k2 o2 f2 => ?_
            have o1' := o1.frame (ok_str w0) (k2.but_at fun i hi => (o1.dom (ok_str w0) i hi).2)
            rw [pVal_5 (OSl.one' o1) rfl rfl rfl rfl]
            simp only [cellOf_agg, List.getD_cons_zero, List.getD_cons_succ]
            intro b hb1 hb2
            have kb : Keeps s2 (s2.put b ⟨t_impl_Entry, [v1, .int .i64 1, .bool false, .int .i64 0, .string ⟨#[]⟩], 5, (0, 0)⟩) := Keeps.put hb2
            refine ⟨kb.stay, ?_⟩
            have oo := OAcc.single (ok_en w0) (ety := t_impl_Entry) hb1 hb2 (gone_own o1')
            have o2' := o2.frame (ok_en w0) (kb.but_at fun i hi => (o2.dom (ok_en w0) i hi).2)
            have hfp : ∀ i, i ∈ b :: P → σ i = none := fun i hi => by
              rcases List.mem_cons.1 hi with rfl | hi
              · exact none_old (k1.trans k2) hb2
              · exact f1 i hi
            refine oo.allOwn (ok_en w0) o2'.osl (fun i hi hi' => ?_) (by simp only [cntO] at hwl; omega) (by omega) fun v3 G3 s3 k3 o3 f3 => ?_
            · rcases List.mem_cons.1 hi' with rfl | hi'
              · exact (o2.dom (ok_en w0) _ hi).2 hb2
              · exact (o1.dom (ok_str w0) i hi').2 (f2 i hi)
            have K2 := (k1.trans k2).trans kb
            refine hR v3 G3 s3 (k3.old K2 hfp) o3 fun i hi => ?_
            rcases f3 i hi with h | h | h
            · exact hfp i h
            · exact none_old k1 (f2 i h)
            · exact none_old K2 h
        have hd' : isDir x = isDir y := by simpa using hd
        have ew : walkE (n + 1) ps (some x) (some y) = partE ps x y ++ ((mrgK (partsOf x) (partsOf y)).map fun z => walkE n (ps ++ [z.1]) z.2.1 z.2.2).flatten := by
          simp only [walkE]; rw [if_pos hd']
        have hasc : ∀ {z : Tr}, ascT (n + 1) z → AscS (namesOf z) := fun {z} h => by obtain ⟨d, m, t, ns, ks⟩ := z; exact h.1
        have emk := mrgK_names (xa := partsOf x) (xb := partsOf y) (by rw [part_names a1]; exact hasc a3) (by rw [part_names b1]; exact hasc b3) (namesU_asc (namesOf x ++ namesOf y)) (fun z => by rw [namesU_mem, part_names a1, part_names b1, List.mem_append])
        rw [ew, ← emk, List.map_map] at hR hwl
        have eW : ((fun z : Pr => walkE n (ps ++ [z.1]) z.2.1 z.2.2) ∘ fun nm => ((nm, lk (partsOf x) nm, lk (partsOf y) nm) : Pr)) = fun nm => walkE n (ps ++ [nm]) (kidT x nm) (kidT y nm) := by
          funext nm
          simp only [Function.comp_apply]
          rw [kid_lk a1, kid_lk b1]
        rw [eW] at hR hwl
        have hLm : ∀ z, z ∈ namesU (namesOf x ++ namesOf y) → z ∈ namesOf x ∨ z ∈ namesOf y := fun z hz => by rw [namesU_mem, List.mem_append] at hz; exact hz
        generalize hL : namesU (namesOf x ++ namesOf y) = L at hR hwl hLm
        generalize hpe : partE ps x y = pe at hR hwl
        generalize hW : (fun nm => walkE n (ps ++ [nm]) (kidT x nm) (kidT y nm)) = W at hR hwl
        rw [pNil_s]
        refine PT.load ha fun g3 hg3 => ?_
        rw [pNil_s]
        refine PT.load hb fun g4 hg4 => ?_
        refine impl_changes hv (by omega) hg3 hg4 fun v1 G1 s1 k1 o1 f1 => ?_
        rw [hpe] at o1
        have nl1 := names_len a1 a2
        have nl2 := names_len b1 b2
        refine impl_either (ha.mono k1.le) (hb.mono k1.le) (by omega) fun nv F s2 k2 on fn => ?_
        rw [hL] at on
        have onr := on.rel (ok_str w0)
        have o1' := o1.frame (ok_en w0) (k2.but_at fun i hi => (o1.dom (ok_en w0) i hi).2)
        rw [onr.len]
        have hll := onr.le
        refine loop_rule (m := L.length) (fun c l st => ∃ (j : Nat) (G : List Nat) (acc : Value), c + j = L.length ∧ Keeps σ st ∧ (∀ i, i ∈ G → σ i = none) ∧ OAcc w0 t_impl_Entry 5 (OEn w0) st G acc (pe ++ ((L.take j).map W).flatten) ∧
            OStrs w0 st F nv L ∧ (∀ i, i ∈ F → i ∉ G) ∧ l = [v, .pointer (some ad), .pointer (some bd), acc, nv, .int .i64 (L.length : Nat), .int .i64 (j : Nat)]) ?_
          ⟨0, G1, v1, by omega, k1.trans k2, f1, by simpa using o1', on, fun i hi hi' => (o1.dom (ok_en w0) i hi').2 (fn i hi), rfl⟩
        rintro c l st L' ⟨j, G, acc, hcj, ks0, hG, ho, hon, hFG, rfl⟩ hL'
        simp only [vget, List.getD_cons_zero, List.getD_cons_succ]
        rw [pBin_lt, pIf_d]
        refine ⟨fun hj => ?_, fun hj => ?_⟩
        · have hnm := List.getElem?_eq_getElem (show j < L.length by omega)
          generalize L[j]'(by omega) = nm at hnm
          have hmem := hLm nm (List.mem_of_getElem? hnm)
          have hsz : nm.size ≤ 5 := by
            rcases hmem with h | h
            · exact name_short a1 h
            · exact name_short b1 h
          refine RSl.at1 (hon.rel (ok_str w0)) hnm fun g hg hgs => ?_
          rw [hg]
          refine below_path (hv.mono ks0.le fun _ _ h => h) (by omega) (by omega) fun pv PF s3 k3 op fp => ?_
          have K3 := ks0.trans k3
          refine impl_kid (ha.mono K3.le) (short_wf _ _ a1) fun qa hqa => ?_
          refine impl_kid (hb.mono K3.le) (short_wf _ _ b1) fun qb hqb => ?_
          have hne' : ¬ (kidT x nm = none ∧ kidT y nm = none) := fun h => by
            rcases hmem with hm | hm
            · exact kid_there a1 hm h.1
            · exact kid_there b1 hm h.2
          have hW1 : W nm = walkE n (ps ++ [nm]) (kidT x nm) (kidT y nm) := by rw [← hW]
          have ho3 := ho.frame (ok_en w0) (k3.but_at fun i hi => (ho.dom (ok_en w0) i hi).2)
          have hon3 := hon.frame (ok_str w0) (k3.but_at fun i hi => (hon.dom (ok_str w0) i hi).2)
          refine ih (by omega) (op.rel (ok_str w0)) hqa hqb (kid_fine hfa nm) (kid_fine hfb nm) hne' (by rw [List.length_append, sumS_snoc]; simp only [List.length_cons, List.length_nil]; omega) fun v4 G4 s4 k4 o4 f4 => ?_
          rw [← hW1] at o4
          have ho4 := ho3.frame (ok_en w0) (k4.but_at fun i hi => (ho3.dom (ok_en w0) i hi).2)
          have hon4 := hon3.frame (ok_str w0) (k4.but_at fun i hi => (hon3.dom (ok_str w0) i hi).2)
          have hlen : (pe ++ ((L.take j).map W).flatten).length + (W nm).length ≤ 900000 := by
            have e1 := flat_take (f := W) hnm
            have e2 : ((L.map W).flatten).length = (((L.take (j + 1)).map W).flatten).length + (((L.drop (j + 1)).map W).flatten).length := by
              rw [← List.length_append, ← List.flatten_append, ← List.map_append, List.take_append_drop]
            rw [e1, List.length_append] at e2
            rw [List.length_append] at hwl ⊢
            simp only [cntO] at hwl
            omega
          have K4 := K3.trans k4
          refine ho4.allOwn (ok_en w0) o4.osl (fun i hi hi' => (ho3.dom (ok_en w0) i hi').2 (f4 i hi)) (by omega) (by omega) fun v5 G5 s5 k5 o5 f5 => ?_
          rw [pBin_add (by omega)]
          refine hL' _ _ (c - 1) (by omega) ⟨j + 1, G5, v5, by omega, k5.old K4 hG, fun i hi => ?_, ?_, hon4.frame (ok_str w0) (k5.at (fun i hi => (hon4.dom (ok_str w0) i hi).2) hFG), fun i hi hi' => ?_, by simp⟩
          · rcases f5 i hi with h | h | h
            · exact hG i h
            · exact none_old K3 (f4 i h)
            · exact none_old K4 h
          · rw [flat_take hnm, ← List.append_assoc]; exact o5
          · rcases f5 i hi' with h | h | h
            · exact hFG i hi h
            · exact (hon3.dom (ok_str w0) i hi).2 (f4 i h)
            · exact (hon4.dom (ok_str w0) i hi).2 h
        · have e : j = L.length := by omega
          subst e
          rw [List.take_length] at ho
          exact hR acc G st ks0 ho hG
end
end Go.Proofs.YtkbhjejalkbogaaGreat

/- Marks of trees. -/
set_option linter.unusedVariables false
set_option linter.unusedSimpArgs false
namespace Go.Proofs.YtkbhjejalkbogaaGreat
open Go Go.Av

def cT : Nat → Tr → Nat
  | 0, _ => 0
  | n + 1, .mk d m t ns ks => 3 + ns.length + sumBy (cT n) ks
noncomputable def mkT : Nat → Nat → Tr → Tr
  | 0, _, x => x
  | n + 1, k, .mk d m t ns ks => .mk (decide ((k : Int) % 3 = 0)) ((k + 1 : Nat) : Int) (mtext (k + 2)) (mkTexts (k + 3) ns) (mkS (mkT n) (cT n) (k + 3 + ns.length) ks)

theorem cT_le : ∀ (n : Nat) (x : Tr), cT n x ≤ 3 + 4 * szT n x
  | 0, _ => by simp [cT]
  | n + 1, .mk d m t ns ks => by
    have h : ∀ (l : List Tr), sumBy (cT n) l ≤ 3 * l.length + 4 * sumBy (szT n) l := by
      intro l
      induction l with
      | nil => simp [sumBy]
      | cons a r ih => have := cT_le n a; simp only [sumBy, List.length_cons]; omega
    have := h ks
    simp only [cT, szT]; omega

section
variable {w0 : World} {σ : Vw}

theorem markTreeS : ∀ (n : Nat) {σ : Vw} {F : List Nat} {v : Value} {xs : List Tr} {k : Nat} {R : Value → Vw → Prop}, OSl w0 5 (OT w0 n) σ F v xs → k + sumBy (cT n) xs ≤ 1000000000000 →
    (∀ σ', KeepsBut F σ σ' → OSl w0 5 (OT w0 n) σ' F v (mkS (mkT n) (cT n) k xs) → R (.int .i64 ((k + sumBy (cT n) xs : Nat) : Int)) σ') → AC Tryz.prog w0 n_laws_markTreeS [v, .int .i64 (k : Nat)] σ R := by
  intro n
  induction n using Nat.strongRecOn with
  | _ n ih =>
    intro σ F v xs k R h hk hR
    refine ac_laws_markTreeS ?_
    unfold vc_laws_markTreeS
    refine mark_loop (ok_rt w0 n) (mk := mkT n) (cnt := cT n) h hk ?_ hR
    intro j x k' s ys K hj hlen hkb hx hk' hO hyj hK
    simp only [vget, List.getD_cons_zero, List.getD_cons_succ]
    obtain ⟨b, o, f, c, A, C, r, hix, hb, hr, hc, hA, hOx, hbF, hf, hput⟩ := hO.focus (ok_rt w0 n) hyj
    obtain _ | n := n
    · exact hOx.elim
    obtain ⟨d, m, t, ns, ks⟩ := x
    obtain ⟨u, w, F1, F2, rfl, h2, h3, h4, h5, rfl, hnd⟩ := hOx
    simp only [cT] at hk'
    have hb1 : b ∉ F1 := fun e => (hf b (List.mem_append_left _ e)).2 rfl
    have hb2 : b ∉ F2 := fun e => (hf b (List.mem_append_right _ e)).2 rfl
    rw [pBin_rem (by omega), pBin_eq]
    refine hix _ ?_
    refine field_store hr hc hA (by show 0 < 5; omega) rfl ?_
    simp only [List.set_cons_zero, List.set_cons_succ]
    rw [pBin_add (by omega)]
    refine hix _ ?_
    refine field_store put_at rfl hA (by show 1 < 5; omega) rfl ?_
    simp only [List.set_cons_zero, List.set_cons_succ]
    rw [put_put, pBin_add (by omega)]
    rw [show ((k' : Nat) : Int) + 1 + 1 = ((k' + 2 : Nat) : Int) by omega]
    refine markText (by omega) fun s1 k1 => ?_
    refine hix _ ?_
    refine field_store (k1 _ _ put_at) rfl hA (by show 2 < 5; omega) rfl ?_
    simp only [List.set_cons_zero, List.set_cons_succ]
    rw [pBin_add (by omega)]
    refine hix _ ?_
    refine field_load hb put_at rfl hA (y := u) rfl fun g hg => ?_
    rw [hg]
    generalize hcs : [Value.bool (decide ((k' : Int) % 3 = 0)), Value.int .i64 ((k' : Int) + 1), Value.string (mtext (k' + 2)), u, w] = cs
    generalize hs2 : s1.put b _ = s2
    have hs2b : ∃ r2, s2 b = some r2 ∧ r2.cells = A ++ (cs ++ C) := by rw [← hs2, ← hcs]; exact ⟨_, put_at, rfl⟩
    have hs2o : ∀ i, i ≠ b → ∀ ri, s i = some ri → s2 i = some ri := fun i hi ri hri => by
      rw [← hs2]
      simp only [Vw.put, hi, if_false]
      exact k1 i ri (by simp [Vw.put, hi, hri])
    have kb2 : KeepsBut F s s2 := fun i ri hri hiF => hs2o i (fun e => hiF (e ▸ hbF)) ri hri
    clear hs2
    have fr : ∀ {G : List Nat}, (∀ i, i ∈ G → i ≠ b) → (∀ i, i ∈ G → s i ≠ none) → ∀ i, i ∈ G → s2 i = s i := fun h1 h2 i hi => by
      cases hs : s i with
      | none => exact absurd hs (h2 i hi)
      | some ri => exact hs2o i (h1 i hi) ri hs
    have o4 := h4.frame (ok_str w0) (fr (fun i hi e => hb1 (e ▸ hi)) fun i hi => (h4.dom (ok_str w0) i hi).2)
    have o5 := h5.frame (ok_rt w0 n) (fr (fun i hi e => hb2 (e ▸ hi)) fun i hi => (h5.dom (ok_rt w0 n) i hi).2)
    rw [show ((k' + 2 : Nat) : Int) + 1 = ((k' + 3 : Nat) : Int) by omega]
    refine markStringS o4 (by omega) fun s3 k3 o4' => ?_
    obtain ⟨r2, hr2, hc2⟩ := hs2b
    have hr3 := k3 b r2 hr2 hb1
    have hd12 : ∀ i, i ∈ F2 → i ∉ F1 := fun i hi hi' => (List.nodup_append.1 hnd).2.2 i hi' i hi rfl
    have o5' := o5.frame (ok_rt w0 n) (k3.at (fun i hi => (o5.dom (ok_rt w0 n) i hi).2) hd12)
    refine hix _ ?_
    refine field_load hb hr3 hc2 hA (y := w) (by rw [← hcs]; rfl) fun g2 hg2 => ?_
    rw [hg2]
    refine ih n (by omega) o5' (by omega) fun s4 k4 o5'' => ?_
    have hr4 := k4 b r2 hr3 hb2
    have o4'' := o4'.frame (ok_str w0) (k4.at (fun i hi => (o4'.dom (ok_str w0) i hi).2) fun i hi hi' => hd12 i hi' hi)
    rw [pBin_add (by have := h.1; omega)]
    have kf1 : ∀ i, i ∈ F1 → i ∈ F := fun i hi => (hf i (List.mem_append_left _ hi)).1
    have kf2 : ∀ i, i ∈ F2 → i ∈ F := fun i hi => (hf i (List.mem_append_right _ hi)).1
    have := hK s4 (kb2.trans ((k3.mono kf1).trans (k4.mono kf2))) (hput s4 cs (mkT (n + 1) k' (.mk d m t ns ks)) r2 hr4 hc2 ?_ ?_)
    · simp only [cT] at this
      rw [show (k' + (3 + ns.length + sumBy (cT n) ks) : Nat) = k' + 3 + ns.length + sumBy (cT n) ks by omega] at this
      exact this
    · refine ⟨u, w, F1, F2, by rw [← hcs]; simp, ⟨by omega, by omega⟩, mtext_size (by omega), o4'', o5'', rfl, hnd⟩
    · intro i hi hne hif
      have d := hO.dom (ok_rt w0 (n + 1)) i hi
      cases hs : s i with
      | none => exact absurd hs d.2
      | some ri => exact k4 i ri (k3 i ri (hs2o i hne ri hs) fun e => hif (List.mem_append_left _ e)) fun e => hif (List.mem_append_right _ e)

theorem markTree {n : Nat} {F : List Nat} {es : List Value} {x : Tr} {k : Nat} {R : Value → Vw → Prop} (h : OT w0 n σ F es x) (hk : k + cT n x ≤ 1000000000000) (hR : ∀ σ', KeepsBut F σ σ' → (k : Int) ≤ ((k + cT n x : Nat) : Int) → R (.int .i64 ((k + cT n x - 3 : Nat) : Int)) σ') : AC Tryz.prog w0 n_laws_markTree [.agg ⟨es⟩, .int .i64 (k : Nat)] σ R := by
  obtain _ | n := n
  · exact h.elim
  obtain ⟨d, m, t, ns, ks⟩ := x
  obtain ⟨u, w, F1, F2, rfl, h2, h3, h4, h5, rfl, hnd⟩ := h
  refine ac_laws_markTree ?_
  unfold vc_laws_markTree
  rw [pVal_5 rfl rfl rfl (OSl.one' h4) (OSl.one' h5)]
  simp only [cellOf_agg, List.getD_cons_zero, List.getD_cons_succ]
  simp only [cT] at hk hR
  refine markStringS h4 (by omega) fun s3 k3 o4' => ?_
  have hd12 : ∀ i, i ∈ F2 → i ∉ F1 := fun i hi hi' => (List.nodup_append.1 hnd).2.2 i hi' i hi rfl
  have o5' := h5.frame (ok_rt w0 n) (k3.at (fun i hi => (h5.dom (ok_rt w0 n) i hi).2) hd12)
  refine markTreeS n o5' (by omega) fun s4 k4 o5'' => ?_
  have := hR s4 ((k3.mono fun i hi => List.mem_append_left _ hi).trans (k4.mono fun i hi => List.mem_append_right _ hi)) (by omega)
  rw [show (k + (3 + ns.length + sumBy (cT n) ks) - 3 : Nat) = k + ns.length + sumBy (cT n) ks by omega] at this
  exact this
end
end Go.Proofs.YtkbhjejalkbogaaGreat

/- 'DiffWalk': two trees in step, by either hand; the law. -/
set_option linter.unusedVariables false
set_option linter.unusedSimpArgs false
set_option maxRecDepth 20000
namespace Go.Proofs.YtkbhjejalkbogaaGreat
open Go Go.Av

/-- What a sound tree is. -/
theorem ok_fine {n : Nat} {x : Tr} (h : treeOk n x = true) : (∀ rd es, RT n rd es x → RT 5 rd es x) ∧ shortT 5 x ∧ cntT 5 x ≤ 30 ∧ ascT 5 x := by
  have h0 := h
  simp only [treeOk, Bool.and_eq_true, decide_eq_true_eq] at h
  obtain ⟨h1, h2, h3⟩ := sound_down5 5 n x 0 h.2.1 (by omega)
  exact ⟨h1, h2, by omega, sound_asc 5 n x 0 h.2.1⟩

section
variable {w0 : World} {σ : Vw}

theorem walkE_path : ∀ (n : Nat) (ps : List ByteArray) (a b : Option Tr) (e : En), e ∈ walkE n ps a b → e.1.length ≤ ps.length + n
  | 0, _, _, _, e, h => by simp [walkE] at h
  | _ + 1, _, none, none, e, h => by simp [walkE] at h
  | n + 1, ps, none, some b, e, h => by
    simp only [walkE] at h
    obtain ⟨k, qs, z, rfl, hq, _⟩ := lin_mem _ _ _ h
    exact hq
  | n + 1, ps, some _, none, e, h => by
    simp only [walkE, List.mem_singleton] at h
    subst h
    show ps.length ≤ _; omega
  | n + 1, ps, some a, some b, e, h => by
    simp only [walkE] at h
    split at h
    · rcases List.mem_append.1 h with h | h
      · have : e.1 = ps := by
          unfold partE at h
          rcases List.mem_append.1 h with h | h <;> split at h <;> simp at h <;> rw [h]
        rw [this]; omega
      · obtain ⟨l, hl, he⟩ := List.mem_flatten.1 h
        obtain ⟨z, hz, rfl⟩ := List.mem_map.1 hl
        have := walkE_path n _ _ _ _ he
        rw [List.length_append] at this
        simp at this; omega
    · rcases List.mem_cons.1 h with h | h
      · subst h
        show ps.length ≤ _; omega
      · obtain ⟨k, qs, z, rfl, hq, _⟩ := lin_mem _ _ _ h
        exact hq
end
end Go.Proofs.YtkbhjejalkbogaaGreat

/- Marks put in their order; the deepest of them made coarser: the pure part of 'TrailAdd'. -/
set_option linter.unusedVariables false
set_option linter.unusedSimpArgs false
namespace Go.Proofs.YtkbhjejalkbogaaGreat
open Go Go.Av

/-! ### The order of paths -/
theorem lexLt_trans : ∀ {a b c : List ByteArray}, lexLt a b = true → lexLt b c = true → lexLt a c = true
  | _, [], _, h, _ => by simp [lexLt] at h
  | _, _ :: _, [], _, h => by simp [lexLt] at h
  | [], _ :: _, _ :: _, _, _ => by simp [lexLt]
  | x :: a, y :: b, z :: c, h, h' => by
    simp only [lexLt] at h h' ⊢
    by_cases e : x = y
    · subst e
      rw [if_pos rfl] at h
      by_cases e2 : x = z
      · subst e2; rw [if_pos rfl] at h' ⊢; exact lexLt_trans h h'
      · rw [if_neg e2] at h' ⊢; exact h'
    · rw [if_neg e] at h
      by_cases e2 : y = z
      · subst e2; rw [if_neg e]; exact h
      · rw [if_neg e2] at h'
        have h3 := strLt_trans h h'
        rw [if_neg (strLt_ne h3)]; exact h3
theorem lexLt_total : ∀ {a b : List ByteArray}, lexLt a b = false → lexLt b a = false → a = b
  | [], [], _, _ => rfl
  | [], _ :: _, h, _ => by simp [lexLt] at h
  | _ :: _, [], _, h => by simp [lexLt] at h
  | x :: a, y :: b, h, h' => by
    simp only [lexLt] at h h'
    by_cases e : x = y
    · subst e
      rw [if_pos rfl] at h h'
      rw [lexLt_total h h']
    · rw [if_neg e] at h
      rw [if_neg fun h => e h.symm] at h'
      exact absurd (strLt_total h h') e

/-! ### What lies within what -/
theorem within_iff {b a : List ByteArray} : within b a = true ↔ a <+: b := by
  unfold within
  rw [decide_eq_true_iff, List.prefix_iff_eq_take]
  constructor
  · rintro ⟨_, h⟩; exact h.symm
  · intro h; exact ⟨by have := congrArg List.length h; rw [List.length_take] at this; omega, h.symm⟩
theorem within_self (a : List ByteArray) : within a a = true := within_iff.2 (List.prefix_refl a)
/-! ### A mark put in -/
def insF (m : Mk) : List Mk → List Mk
  | [] => [m]
  | x :: r => if lexLt m.1 x.1 = true then m :: x :: r else x :: insF m r
def keepM (m x : Mk) : Bool := !(m.2 && within x.1 m.1)
def markedB (l : List Mk) (p : List ByteArray) : Bool := underB l p || l.any fun x => decide (x.1 = p)
def putM (l : List Mk) (m : Mk) : List Mk := if (underB l m.1 || (!m.2 && markedB l m.1)) = true then l else insF m (l.filter (keepM m))
def AscM (l : List Mk) : Prop := l.Pairwise fun a b => lexLt a.1 b.1 = true
def NoUn (l : List Mk) : Prop := ∀ x, x ∈ l → ∀ y, y ∈ l → x.2 = true → within y.1 x.1 = true → x = y
theorem ins_mem {m x : Mk} : ∀ {l : List Mk}, x ∈ insF m l ↔ x = m ∨ x ∈ l
  | [] => by simp [insF]
  | y :: r => by
    simp only [insF]
    split
    · simp
    · simp only [List.mem_cons, ins_mem (l := r)]
      constructor
      · rintro (h | h | h)
        · exact .inr (.inl h)
        · exact .inl h
        · exact .inr (.inr h)
      · rintro (h | h | h)
        · exact .inr (.inl h)
        · exact .inl h
        · exact .inr (.inr h)
theorem ins_asc {m : Mk} : ∀ {l : List Mk}, AscM l → (∀ x, x ∈ l → x.1 ≠ m.1) → AscM (insF m l)
  | [], _, _ => by simp [insF, AscM]
  | y :: r, h, hn => by
    have h1 := List.pairwise_cons.1 h
    simp only [insF]
    by_cases c : lexLt m.1 y.1 = true
    · rw [if_pos c]
      refine List.pairwise_cons.2 ⟨fun x hx => ?_, h⟩
      rcases List.mem_cons.1 hx with e | e
      · rw [e]; exact c
      · exact lexLt_trans c (h1.1 x e)
    · rw [if_neg c]
      refine List.pairwise_cons.2 ⟨fun x hx => ?_, ins_asc h1.2 fun x hx => hn x (List.mem_cons_of_mem _ hx)⟩
      rcases ins_mem.1 hx with e | e
      · rw [e]
        cases c2 : lexLt y.1 m.1 with
        | true => rfl
        | false => exact absurd (lexLt_total c2 (by simpa using c)) (hn y List.mem_cons_self)
      · exact h1.1 x e
theorem keep_sub {m : Mk} {l : List Mk} : ∀ x, x ∈ l.filter (keepM m) → x ∈ l := fun x hx => (List.mem_filter.1 hx).1
/-- What a trail keeps. -/
def TrP (l : List Mk) : Prop := AscM l ∧ NoUn l
theorem put_un {l : List Mk} {m : Mk} (h : ¬ (underB l m.1 || (!m.2 && markedB l m.1)) = true) : underB l m.1 = false ∧ (m.2 = false → ∀ x, x ∈ l → x.1 ≠ m.1) := by
  simp only [Bool.or_eq_true, not_or] at h
  refine ⟨by simpa using h.1, fun hm x hx e => h.2 ?_⟩
  simp only [hm, Bool.not_false, Bool.true_and, markedB, Bool.or_eq_true, List.any_eq_true]
  exact .inr ⟨x, hx, by simp [e]⟩
theorem TrP.put {l : List Mk} {m : Mk} (h : TrP l) : TrP (putM l m) := by
  unfold putM
  split
  · exact h
  · rename_i hc
    obtain ⟨hu, hs⟩ := put_un hc
    refine ⟨ins_asc (h.1.sublist List.filter_sublist) fun x hx => ?_, fun x hx y hy h2 hw => ?_⟩
    · obtain ⟨x1, x2⟩ := List.mem_filter.1 hx
      cases hm : m.2 with
      | false => exact hs hm x x1
      | true =>
        intro e
        simp [keepM, hm, e, within_self] at x2
    · rcases ins_mem.1 hx with e | e <;> rcases ins_mem.1 hy with e' | e'
      · rw [e, e']
      · exfalso
        rw [e] at h2 hw
        have := (List.mem_filter.1 e').2
        simp [keepM, h2, hw] at this
      · exfalso
        rw [e'] at hw
        obtain ⟨j, hj⟩ := List.getElem?_of_mem (keep_sub x e)
        rw [under_hit hj h2 hw] at hu; cases hu
      · exact h.2 x (keep_sub x e) y (keep_sub y e') h2 hw
/-! ### The deepest of the marks -/
def lenAt (l : List Mk) (j : Nat) : Nat := match l[j]? with
  | some x => x.1.length
  | none => 0
def bestTo (l : List Mk) : Nat → Nat
  | 0 => 0
  | k + 1 => if lenAt l (bestTo l k) ≤ lenAt l k then k else bestTo l k
def bestM (l : List Mk) : Mk := (l[bestTo l l.length]?).getD ([], false)
def upM (x : Mk) : Mk := (x.1.take (x.1.length - 1), true)
def coarseM (l : List Mk) : List Mk := putM l (upM (bestM l))
/-- Coarser and coarser, till it is not too long. -/
inductive Lp : List Mk → List Mk → Prop
  | stop {l : List Mk} (h : l.length ≤ 6) : Lp l l
  | step {l r : List Mk} (h : 6 < l.length) (h' : Lp (coarseM l) r) : Lp l r
end Go.Proofs.YtkbhjejalkbogaaGreat

/- The laws 'TreeRead' and 'TreeList', of the functions alone. -/
set_option linter.unusedVariables false
set_option linter.unusedSimpArgs false
namespace Go.Proofs.YtkbhjejalkbogaaGreat
open Go Go.Av

section
variable {w0 : World} {σ : Vw}

end
end Go.Proofs.YtkbhjejalkbogaaGreat

/- 'TreeAt': copies of trees by either hand; marks of trees that are results; the law. -/
set_option linter.unusedVariables false
set_option linter.unusedSimpArgs false
namespace Go.Proofs.YtkbhjejalkbogaaGreat
open Go Go.Av

theorem sumBy_congr {α : Type} {f g : α → Nat} : ∀ {xs : List α}, (∀ x, x ∈ xs → f x = g x) → sumBy f xs = sumBy g xs
  | [], _ => rfl
  | x :: xs, h => by simp only [sumBy]; rw [h x (by simp), sumBy_congr fun y hy => h y (by simp [hy])]
section
variable {w0 : World} {σ : Vw}

end
end Go.Proofs.YtkbhjejalkbogaaGreat

/- Marks of marks. -/
set_option linter.unusedVariables false
set_option linter.unusedSimpArgs false
namespace Go.Proofs.YtkbhjejalkbogaaGreat
open Go Go.Av

section
variable {w0 : World} {σ : Vw}

/-! ### Marks of marks -/
def cMk (m : Mk) : Nat := m.1.length + 1
noncomputable def mkMk (k : Nat) (m : Mk) : Mk := (mkTexts k m.1, decide (((k + m.1.length : Nat) : Int) % 3 = 0))
theorem markMarkS {F : List Nat} {v : Value} {xs : List Mk} {k : Nat} (h : OSl w0 2 (OMk w0) σ F v xs) (hk : k + sumBy cMk xs ≤ 1000000000000) {R : Value → Vw → Prop}
    (hR : ∀ σ', KeepsBut F σ σ' → OSl w0 2 (OMk w0) σ' F v (mkS mkMk cMk k xs) → R (.int .i64 ((k + sumBy cMk xs : Nat) : Int)) σ') : AC Tryz.prog w0 n_laws_markMarkS [v, .int .i64 (k : Nat)] σ R := by
  refine ac_laws_markMarkS ?_
  unfold vc_laws_markMarkS
  refine mark_loop (ok_mk w0) (mk := mkMk) (cnt := cMk) h hk ?_ hR
  intro j x k' s ys K hj hlen hkb hx hk' hO hyj hK
  simp only [vget, List.getD_cons_zero, List.getD_cons_succ]
  obtain ⟨b, o, f, c, A, C, r, hix, hb, hr, hc, hA, hOx, hbF, hf, hput⟩ := hO.focus (ok_mk w0) hyj
  obtain ⟨p, d⟩ := x
  obtain ⟨u, rfl, h4⟩ := hOx
  simp only [cMk] at hk' hK h4
  have hb1 : b ∉ f := fun e => (hf b e).2 rfl
  refine hix _ ?_
  refine field_load hb hr hc hA (y := u) rfl fun g hg => ?_
  rw [hg]
  refine markStringS h4 (by omega) fun s3 k3 o4' => ?_
  have hr3 := k3 b r hr hb1
  rw [pBin_rem (by omega), pBin_eq]
  refine hix _ ?_
  refine field_store hr3 hc hA (by show 1 < 2; omega) rfl ?_
  simp only [List.set_cons_zero, List.set_cons_succ]
  rw [pBin_add (by omega), pBin_add (by have := h.1; omega)]
  have kf : ∀ i, i ∈ f → i ∈ F := fun i hi => (hf i hi).1
  generalize hs4 : s3.put b _ = s4
  have hs4b : ∃ r2, s4 b = some r2 ∧ r2.cells = A ++ ([u, Value.bool (decide (((k' + p.length : Nat) : Int) % 3 = 0))] ++ C) := by rw [← hs4]; exact ⟨_, put_at, rfl⟩
  have hs4o : ∀ i, i ≠ b → s4 i = s3 i := fun i hi => by rw [← hs4]; simp [Vw.put, hi]
  clear hs4
  obtain ⟨r2, hr2, hc2⟩ := hs4b
  have o5 := o4'.frame (ok_str w0) (σ' := s4) fun i hi => hs4o i fun e => hb1 (e ▸ hi)
  have kb : KeepsBut F s s4 := fun i ri hri hiF => by
    rw [hs4o i fun e => hiF (e ▸ hbF)]
    exact k3 i ri hri fun e => hiF (kf i e)
  have := hK s4 kb (hput s4 _ (mkMk k' (p, d)) r2 hr2 hc2 ⟨u, rfl, o5⟩ fun i hi hne hif => ?_)
  · rw [show (k' + (p.length + 1) : Nat) = k' + p.length + 1 by omega] at this
    exact this
  · have dd := hO.dom (ok_mk w0) i hi
    rw [hs4o i hne]
    cases hs : s i with
    | none => exact absurd hs dd.2
    | some ri => exact k3 i ri hs hif
end
end Go.Proofs.YtkbhjejalkbogaaGreat

/- Calls; marks of marks; the trail of a call by either hand; the law 'TrailOf'. -/
set_option linter.unusedVariables false
set_option linter.unusedSimpArgs false
namespace Go.Proofs.YtkbhjejalkbogaaGreat
open Go Go.Av

/-- A call: its kind, its path, where to, a number, bytes. -/
abbrev Cl := Int × List ByteArray × List ByteArray × Int × ByteArray
abbrev i64r (n : Int) : Prop := -9223372036854775808 ≤ n ∧ n ≤ 9223372036854775807
def RCl (rd : Addr → Option Value) (es : List Value) (c : Cl) : Prop := ∃ u w, es = [.int .i64 c.1, u, w, .int .i64 c.2.2.2.1, .string c.2.2.2.2] ∧ RSl 1 RS rd u c.2.1 ∧ RSl 1 RS rd w c.2.2.1 ∧ i64r c.1 ∧ i64r c.2.2.2.1 ∧ c.2.2.2.2.size ≤ 9223372036854775807
section
variable {w0 : World} {σ : Vw}

theorem RCl.five {rd : Addr → Option Value} {es : List Value} {x : Cl} (h : RCl rd es x) {A : Prop} : pVal true 5 (.agg ⟨es⟩) A ↔ A := by
  obtain ⟨u, w, rfl, h2, h3, _⟩ := h; exact pVal_5 rfl h2.one h3.one rfl rfl
/-! ### Lists of one mark or two, in a row of our own -/
end

end Go.Proofs.YtkbhjejalkbogaaGreat

/- Marks: what is under, what is marked, by either hand; the sort of marks of which only the last stands wrong. -/
set_option linter.unusedVariables false
set_option linter.unusedSimpArgs false
namespace Go.Proofs.YtkbhjejalkbogaaGreat
open Go Go.Av

def markedS (l : List Mk) (p : List ByteArray) : Bool := l.any fun x => decide (x.1 = p) || (x.2 && within p x.1)
theorem markedS_eq : ∀ {l : List Mk} {p : List ByteArray}, markedS l p = markedB l p
  | [], _ => rfl
  | x :: r, p => by
    have := markedS_eq (l := r) (p := p)
    simp only [markedS, markedB, underB] at this
    simp only [markedS, markedB, underB, List.any_cons, this]
    cases decide (x.1 = p) <;> cases (x.2 && within p x.1) <;> simp
theorem markedS_take {ms : List Mk} {p : List ByteArray} {j : Nat} {x : Mk} (h : ms[j]? = some x) : markedS (ms.take (j + 1)) p = (markedS (ms.take j) p || (decide (x.1 = p) || (x.2 && within p x.1))) := by
  rw [List.take_add_one, h]
  simp [markedS, List.any_append]
theorem markedS_hit {ms : List Mk} {p : List ByteArray} {j : Nat} {x : Mk} (h : ms[j]? = some x) (h1 : (decide (x.1 = p) || (x.2 && within p x.1)) = true) : markedS ms p = true := by
  simp only [markedS, List.any_eq_true]
  exact ⟨x, List.mem_of_getElem? h, h1⟩
section
variable {w0 : World} {σ : Vw}

theorem spec_l11Same {v v' : Value} {xs ys : List ByteArray} (h : RSl 1 RS (Av.get w0 σ) v xs) (h' : RSl 1 RS (Av.get w0 σ) v' ys) {R : Value → Vw → Prop} (hR : R (.bool (decide (xs = ys))) σ) : AC Tryz.prog w0 n_spec_l11Same [v, v'] σ R := by
  refine ac_spec_l11Same ?_
  unfold vc_spec_l11Same
  rw [h.len, h'.len, pBin_eq, pIf_d]
  refine ⟨fun e => spec_Within h h' ?_, fun e => ?_⟩
  · have : within xs ys = decide (xs = ys) := by
      rw [Bool.eq_iff_iff, within_iff, decide_eq_true_iff]
      constructor
      · intro hp; exact (hp.eq_of_length (by omega)).symm
      · intro he; rw [he]; exact List.prefix_refl _
    rw [this]; exact hR
  · rw [decide_eq_false fun e' => e (by rw [e'])] at hR; exact hR

theorem spec_l11Under {v v' : Value} {ms : List Mk} {p : List ByteArray} (h : RSl 2 RMk (Av.get w0 σ) v ms) (h' : RSl 1 RS (Av.get w0 σ) v' p) {R : Value → Vw → Prop} (hR : R (.bool (underB ms p)) σ) : AC Tryz.prog w0 n_spec_l11Under [v, v'] σ R := by
  refine ac_spec_l11Under ?_
  unfold vc_spec_l11Under
  have hl := h.le
  refine loop_rule (m := ms.length) (fun m l t => ∃ j, t = σ ∧ m + j = ms.length ∧ underB (ms.take j) p = false ∧ l = [v, v', .bool false, .int .i64 (j : Nat)]) ?_ ⟨0, rfl, by omega, rfl, rfl⟩
  rintro m l t L ⟨j, rfl, hm, ht, rfl⟩ hL
  simp only [vget, List.getD_cons_zero, List.getD_cons_succ]
  rw [h.len, pBin_lt, pIf_d]
  refine ⟨fun hj => ?_, fun hj => ?_⟩
  · have hx := List.getElem?_eq_getElem (show j < ms.length by omega)
    generalize ms[j] = x at hx
    have hstep := underB_take (p := p) hx
    have next : underB (ms.take (j + 1)) p = false → L [v, v', .bool false, .int .i64 ((j : Int) + 1)] t := fun hf => hL _ _ (m - 1) (by omega) ⟨j + 1, rfl, by omega, hf, rfl⟩
    refine RSl.fld h hx (by omega) fun g1 es hes he => ?_
    obtain ⟨u1, rfl, hu1⟩ := hes
    simp at he
    rw [← he, pIf_b]
    refine ⟨fun h2 => ?_, fun h2 => ?_⟩
    · refine RSl.fld h hx (by omega) fun g2 es hes he => ?_
      obtain ⟨u2, rfl, hu2⟩ := hes
      simp at he
      rw [← he]
      refine spec_Within h' hu2 (pIf_b.2 ⟨fun hw => ?_, fun hw => ?_⟩)
      · rw [under_hit hx h2 hw] at hR; exact hR
      · rw [pBin_add (by omega)]
        exact next (by rw [hstep, ht, hw]; simp)
    · rw [pBin_add (by omega)]
      exact next (by rw [hstep, ht, h2]; simp)
  · have hj' : j = ms.length := by omega
    subst hj'
    rw [List.take_length] at ht
    rw [ht] at hR; exact hR

theorem spec_l11Marked {v v' : Value} {ms : List Mk} {p : List ByteArray} (h : RSl 2 RMk (Av.get w0 σ) v ms) (h' : RSl 1 RS (Av.get w0 σ) v' p) {R : Value → Vw → Prop} (hR : R (.bool (markedB ms p)) σ) : AC Tryz.prog w0 n_spec_l11Marked [v, v'] σ R := by
  rw [← markedS_eq] at hR
  refine ac_spec_l11Marked ?_
  unfold vc_spec_l11Marked
  have hl := h.le
  refine loop_rule (m := ms.length) (fun m l t => ∃ j, t = σ ∧ m + j = ms.length ∧ markedS (ms.take j) p = false ∧ l = [v, v', .bool false, .int .i64 (j : Nat)]) ?_ ⟨0, rfl, by omega, rfl, rfl⟩
  rintro m l t L ⟨j, rfl, hm, ht, rfl⟩ hL
  simp only [vget, List.getD_cons_zero, List.getD_cons_succ]
  rw [h.len, pBin_lt, pIf_d]
  refine ⟨fun hj => ?_, fun hj => ?_⟩
  · have hx := List.getElem?_eq_getElem (show j < ms.length by omega)
    generalize ms[j] = x at hx
    have hstep := markedS_take (p := p) hx
    have next : markedS (ms.take (j + 1)) p = false → L [v, v', .bool false, .int .i64 ((j : Int) + 1)] t := fun hf => hL _ _ (m - 1) (by omega) ⟨j + 1, rfl, by omega, hf, rfl⟩
    have hit : (decide (x.1 = p) || (x.2 && within p x.1)) = true → R (.bool true) t := fun hh => by rw [markedS_hit hx hh] at hR; exact hR
    refine RSl.fld h hx (by omega) fun g1 es hes he => ?_
    obtain ⟨u1, rfl, hu1⟩ := hes
    simp at he
    rw [← he]
    refine spec_l11Same hu1 h' (pIf_b.2 ⟨fun hw => hit (by rw [hw]; rfl), fun hw => ?_⟩)
    refine RSl.fld h hx (by omega) fun g2 es hes he => ?_
    obtain ⟨u2, rfl, hu2⟩ := hes
    simp at he
    rw [← he, pIf_b]
    refine ⟨fun h2 => ?_, fun h2 => ?_⟩
    · refine RSl.fld h hx (by omega) fun g3 es hes he => ?_
      obtain ⟨u3, rfl, hu3⟩ := hes
      simp at he
      rw [← he]
      refine spec_Within h' hu3 (pIf_b.2 ⟨fun hw2 => hit (by rw [h2, hw2]; simp), fun hw2 => ?_⟩)
      rw [pBin_add (by omega)]
      exact next (by rw [hstep, ht, hw, hw2]; simp)
    · rw [pBin_add (by omega)]
      exact next (by rw [hstep, ht, hw, h2]; simp)
  · have hj' : j = ms.length := by omega
    subst hj'
    rw [List.take_length] at ht
    rw [ht] at hR; exact hR

theorem slices_Eq {v v' : Value} {xs ys : List ByteArray} (h : RSl 1 RS (Av.get w0 σ) v xs) (h' : RSl 1 RS (Av.get w0 σ) v' ys) {R : Value → Vw → Prop} (hR : R (.bool (decide (xs = ys))) σ) : AC Tryz.prog w0 n_slices_Equal_string_string [v, v'] σ R := by
  refine ac_slices_Equal_string_string ?_
  unfold vc_slices_Equal_string_string
  have hl := h.le
  rw [h.len, h'.len, pBin_ne, pIf_d]
  refine ⟨fun e => ?_, fun e => ?_⟩
  · rw [decide_eq_false fun e' => e (by rw [e'])] at hR; exact hR
  have hlen : xs.length = ys.length := by have := Decidable.not_not.1 e; omega
  rw [h.len]
  refine loop_rule (m := xs.length) (fun m l t => ∃ j, t = σ ∧ m + j = xs.length ∧ xs.take j = ys.take j ∧ l = [v, v', .bool false, .int .i64 (xs.length : Nat), .int .i64 (j : Nat)]) ?_ ⟨0, rfl, by omega, by simp, rfl⟩
  rintro m l t L ⟨j, rfl, hm, ht, rfl⟩ hL
  simp only [vget, List.getD_cons_zero, List.getD_cons_succ]
  rw [pBin_lt, pIf_d]
  refine ⟨fun hj => ?_, fun hj => ?_⟩
  · have hx := List.getElem?_eq_getElem (show j < xs.length by omega)
    have hy := List.getElem?_eq_getElem (show j < ys.length by omega)
    refine RSl.at1 h hx fun g hg _ => ?_
    refine RSl.at1 h' hy fun g' hg' _ => ?_
    rw [hg, hg', pBin_sne, pIf_d]
    refine ⟨fun hne => ?_, fun heq => ?_⟩
    · rw [decide_eq_false fun e' => hne (by subst e'; rfl)] at hR; exact hR
    · rw [pBin_add (by omega)]
      exact hL _ _ (m - 1) (by omega) ⟨j + 1, rfl, by omega, by rw [List.take_add_one, List.take_add_one, hx, hy, ht, Decidable.not_not.1 heq], rfl⟩
  · have hj' : j = xs.length := by omega
    subst hj'
    rw [List.take_length, List.take_of_length_le (by omega)] at ht
    rw [decide_eq_true ht] at hR; exact hR

theorem marked_c1 {es : List Value} {x : Mk} {b : Nat} {r : Row} {u : Value} {p : List ByteArray} (h : RMk (Av.get w0 σ) es x) (hb : w0.heap.size ≤ b) (hr : σ b = some r) (hc : r.cells = [u]) (hu : RSl 1 RS (Av.get w0 σ) u p) {R : Value → Vw → Prop} (hR : R (.bool (decide (x.1 = p))) σ) :
    AC Tryz.prog w0 n_impl_marked_c1 [.agg ⟨es⟩, .pointer (some (Addr.mk b 0 none))] σ R := by
  obtain ⟨v, rfl, hv⟩ := h
  refine ac_impl_marked_c1 ?_
  unfold vc_impl_marked_c1
  rw [pVal_2 hv.one rfl]
  simp only [cellOf_agg, List.getD_cons_zero, List.getD_cons_succ]
  refine ⟨⟨b, 0, none⟩, fun _ => u, rfl, fun i hi => ?_, slices_Eq hv hu hR⟩
  have e : i = 0 := by omega
  subst e
  rw [addr_add, get_row hb hr, hc]; rfl

theorem impl_marked {v u : Value} {ms : List Mk} {p : List ByteArray} (h : RSl 2 RMk (Av.get w0 σ) v ms) (hu : RSl 1 RS (Av.get w0 σ) u p) {R : Value → Vw → Prop} (hR : ∀ σ', Keeps σ σ' → R (.bool (markedB ms p)) σ') : AC Tryz.prog w0 n_impl_marked [v, u] σ R := by
  refine ac_impl_marked ?_
  unfold vc_impl_marked
  rw [pVal1 hu.one]
  intro b h1 h2
  have kb : Keeps σ (σ.put b ⟨t_s_string, [u], 1, (0, 0)⟩) := Keeps.put h2
  have hl := h.le
  have h := h.mono kb.le fun es x => mono_mk kb.le
  have hu := hu.mono kb.le fun _ _ h => h
  have hR := hR _ kb
  refine ⟨⟨b, 0, none⟩, fun _ => u, rfl, fun i hi => ?_, ?_⟩
  · have e : i = 0 := by omega
    subst e
    rw [addr_add, get_row h1 put_at]; rfl
  refine impl_under h hu (pIf_b.2 ⟨fun e => ?_, fun e => ?_⟩)
  · have : markedB ms p = true := by simp [markedB, e]
    rw [this] at hR; exact hR
  have em : markedB ms p = ms.any fun x => decide (x.1 = p) := by simp [markedB, e]
  rw [em] at hR
  clear e em
  refine ac_slices_ContainsFunc_impl_Mark_impl_Mark ?_
  unfold vc_slices_ContainsFunc_impl_Mark_impl_Mark
  refine ac_slices_IndexFunc_impl_Mark_impl_Mark ?_
  unfold vc_slices_IndexFunc_impl_Mark_impl_Mark
  rw [h.len]
  refine loop_rule (m := ms.length) (fun m l t => ∃ j : Nat, t = σ.put b ⟨t_s_string, [u], 1, (0, 0)⟩ ∧ m + j = ms.length ∧ (ms.take j).any (fun x => decide (x.1 = p)) = false ∧ l = [v, .func (.func n_impl_marked_c1) ⟨[]⟩ ⟨[.pointer (some (Addr.mk b 0 none))]⟩, .int .i64 0, .int .i64 (ms.length : Nat), .int .i64 (j : Nat)]) ?_ ⟨0, rfl, by omega, rfl, rfl⟩
  rintro m l t L ⟨j, rfl, hm, ht, rfl⟩ hL
  simp only [vget, List.getD_cons_zero, List.getD_cons_succ]
  rw [pBin_lt, pIf_d]
  refine ⟨fun hj => ?_, fun hj => ?_⟩
  · have hx := List.getElem?_eq_getElem (show j < ms.length by omega)
    generalize ms[j] = x at hx
    refine h.at hx fun g hg => ?_
    simp only [expl] at hg
    refine ⟨n_impl_marked_c1, [], _, rfl, ?_⟩
    simp only [List.nil_append, List.cons_append]
    refine marked_c1 hg h1 put_at rfl hu (pIf_b.2 ⟨fun e => ?_, fun e => ?_⟩)
    · show pBin Tryz.prog 3 .geq (.int .i64 (j : Nat)) (.int .i64 0) _
      rw [pBin_ge, decide_eq_true (by omega)]
      have : (ms.any fun x => decide (x.1 = p)) = true := List.any_eq_true.2 ⟨x, List.mem_of_getElem? hx, e⟩
      rw [this] at hR; exact hR
    · rw [pBin_add (by omega)]
      refine hL _ _ (m - 1) (by omega) ⟨j + 1, rfl, by omega, ?_, rfl⟩
      rw [List.take_add_one, hx]
      simp only [Option.toList_some, List.any_append, ht, List.any_cons, List.any_nil, e]; rfl
  · have hj' : j = ms.length := by omega
    subst hj'
    show pBin Tryz.prog 3 .geq (.int .i64 (-1)) (.int .i64 0) _
    rw [pBin_ge, decide_eq_false (by omega)]
    rw [List.take_length] at ht
    rw [ht] at hR; exact hR

/-! ### The sort -/
end
end Go.Proofs.YtkbhjejalkbogaaGreat

/- How many paths there are in either of two parts; whether all that differs is marked; what a trail leads to: the pure part. -/
set_option linter.unusedVariables false
set_option linter.unusedSimpArgs false
set_option maxRecDepth 20000
namespace Go.Proofs.YtkbhjejalkbogaaGreat
open Go Go.Av

theorem ins_ascS {l : List ByteArray} {k : Nat} {x : ByteArray} (h : AscS l) (h1 : ∀ z, z ∈ l.take k → strLt z x = true) (h2 : ∀ z, l[k]? = some z → strLt x z = true) : AscS (l.take k ++ x :: l.drop k) := by
  have hd : ∀ z, z ∈ l.drop k → strLt x z = true := fun z hz => by
    by_cases hk : k < l.length
    · rw [List.drop_eq_getElem_cons hk] at hz
      have hx := h2 _ (List.getElem?_eq_getElem hk)
      rcases List.mem_cons.1 hz with e | hz
      · rw [e]; exact hx
      · have hp : AscS (l.drop k) := List.Pairwise.sublist (List.drop_sublist k l) h
        rw [List.drop_eq_getElem_cons hk] at hp
        exact strLt_trans hx ((List.pairwise_cons.1 hp).1 z hz)
    · rw [List.drop_of_length_le (by omega)] at hz; cases hz
  refine List.pairwise_append.2 ⟨List.Pairwise.sublist (List.take_sublist k l) h, List.pairwise_cons.2 ⟨hd, List.Pairwise.sublist (List.drop_sublist k l) h⟩, fun a ha b hb => ?_⟩
  rcases List.mem_cons.1 hb with e | hb
  · rw [e]; exact h1 a ha
  · exact strLt_trans (h1 a ha) (hd b hb)

theorem mrgK_mem : ∀ (xa xb : List (ByteArray × Tr)) (z : Pr), z ∈ mrgK xa xb → ((∃ k, z.2.1 = some k ∧ (z.1, k) ∈ xa) ∧ (z.2.2 = none ∨ ∃ k n, z.2.2 = some k ∧ (n, k) ∈ xb)) ∨ (z.2.1 = none ∧ ∃ k, z.2.2 = some k ∧ (z.1, k) ∈ xb)
  | [], xb, z, h => by
    rw [mrgK] at h
    obtain ⟨y, hy, rfl⟩ := List.mem_map.1 h
    exact .inr ⟨rfl, y.2, rfl, hy⟩
  | a :: xa, [], z, h => by
    rw [mrgK] at h
    obtain ⟨y, hy, rfl⟩ := List.mem_map.1 h
    exact .inl ⟨⟨y.2, rfl, hy⟩, .inl rfl⟩
  | a :: xa, b :: xb, z, h => by
    rw [mrgK] at h
    split at h
    · rcases List.mem_cons.1 h with rfl | h
      · exact .inl ⟨⟨a.2, rfl, List.mem_cons_self⟩, .inl rfl⟩
      · rcases mrgK_mem xa (b :: xb) z h with ⟨⟨k, h1, h2⟩, h3⟩ | h3
        · exact .inl ⟨⟨k, h1, List.mem_cons_of_mem _ h2⟩, h3⟩
        · exact .inr h3
    · split at h
      · rcases List.mem_cons.1 h with rfl | h
        · exact .inr ⟨rfl, b.2, rfl, List.mem_cons_self⟩
        · rcases mrgK_mem (a :: xa) xb z h with ⟨h1, h3 | ⟨k, n, h2, h3⟩⟩ | ⟨h1, k, h2, h3⟩
          · exact .inl ⟨h1, .inl h3⟩
          · exact .inl ⟨h1, .inr ⟨k, n, h2, List.mem_cons_of_mem _ h3⟩⟩
          · exact .inr ⟨h1, k, h2, List.mem_cons_of_mem _ h3⟩
      · rcases List.mem_cons.1 h with rfl | h
        · exact .inl ⟨⟨a.2, rfl, List.mem_cons_self⟩, .inr ⟨b.2, b.1, rfl, List.mem_cons_self⟩⟩
        · rcases mrgK_mem xa xb z h with ⟨⟨k, h1, h2⟩, h3 | ⟨k', n, h3, h4⟩⟩ | ⟨h1, k, h2, h3⟩
          · exact .inl ⟨⟨k, h1, List.mem_cons_of_mem _ h2⟩, .inl h3⟩
          · exact .inl ⟨⟨k, h1, List.mem_cons_of_mem _ h2⟩, .inr ⟨k', n, h3, List.mem_cons_of_mem _ h4⟩⟩
          · exact .inr ⟨h1, k, h2, List.mem_cons_of_mem _ h3⟩
termination_by xa xb => xa.length + xb.length

/-- How many paths there are in either of two parts, of which either may not be there. -/
noncomputable def unT : Nat → Option Tr → Option Tr → Nat
  | 0, _, _ => 0
  | _ + 1, none, none => 0
  | n + 1, none, some b => cntT (n + 1) b + 1
  | n + 1, some a, none => cntT (n + 1) a + 1
  | n + 1, some a, some b => 1 + sumBy (fun z : Pr => unT n z.2.1 z.2.2) (mrgK (partsOf a) (partsOf b))
/-- The same of parts that are there. -/
noncomputable def unS : Nat → Tr → Tr → Nat
  | 0, _, _ => 0
  | n + 1, a, b => 1 + sumBy (fun z : Pr => unS n (z.2.1.getD zeroT) (z.2.2.getD zeroT)) (mrgK (partsOf a) (partsOf b))

theorem unT_le : ∀ (n : Nat) (a b : Option Tr), unT n a b ≤ cntO n a + cntO n b
  | 0, _, _ => by simp [unT]
  | _ + 1, none, none => by simp [unT]
  | n + 1, none, some b => by simp [unT, cntO]
  | n + 1, some a, none => by simp [unT, cntO]
  | n + 1, some a, some b => by
    have h3 : sumBy (fun z : Pr => unT n z.2.1 z.2.2) (mrgK (partsOf a) (partsOf b)) ≤ sumBy (fun z : Pr => cntO n z.2.1 + cntO n z.2.2) (mrgK (partsOf a) (partsOf b)) := sumBy_mono fun z _ => unT_le n _ _
    rw [mrgK_sum (A := cntO n) (B := cntO n) rfl rfl] at h3
    obtain ⟨d, m, t, ns, ks⟩ := a
    obtain ⟨d', m', t', ns', ks'⟩ := b
    have h4 := zip_sum (f := cntT n) (ns := ns) (ks := ks)
    have h5 := zip_sum (f := cntT n) (ns := ns') (ks := ks')
    have e1 : cntT (n + 1) (.mk d m t ns ks) = ks.length + sumBy (cntT n) ks := rfl
    have e2 : cntT (n + 1) (.mk d' m' t' ns' ks') = ks'.length + sumBy (cntT n) ks' := rfl
    simp only [unT, cntO, partsOf, namesOf, kidsOf] at h3 ⊢
    omega

/-- What is asked of a part. -/
def fineT (n : Nat) (x : Tr) : Prop := shortT n x ∧ cntT n x ≤ 100000 ∧ ascT n x
theorem fine_zero (n : Nat) : fineT (n + 1) zeroT := ⟨⟨by omega, by show 0 ≤ _; omega, rfl, fun x h => (by cases h), fun x h => (by cases h)⟩, by show 0 ≤ _; omega, List.Pairwise.nil, fun x h => (by cases h)⟩
theorem fine_getD {n : Nat} {o : Option Tr} (h : fineO (n + 1) o) : fineT (n + 1) (o.getD zeroT) := by
  cases o with
  | none => exact fine_zero n
  | some x => exact h x rfl
theorem parts_kid {x : Tr} {nm : ByteArray} {k : Tr} (h : (nm, k) ∈ partsOf x) : k ∈ kidsOf x ∧ nm ∈ namesOf x := by
  unfold partsOf at h
  exact ⟨(List.of_mem_zip h).2, (List.of_mem_zip h).1⟩
theorem fine_kid {n : Nat} {x k : Tr} (h : fineT (n + 1) x) (hk : k ∈ kidsOf x) : fineT n k := by
  obtain ⟨h1, h2, h3⟩ := h
  obtain ⟨d, m, t, ns, ks⟩ := x
  have hk : k ∈ ks := hk
  have e1 : cntT (n + 1) (.mk d m t ns ks) = ks.length + sumBy (cntT n) ks := rfl
  have := sumBy_mem (f := cntT n) hk
  exact ⟨h1.2.2.2.2 k hk, by omega, h3.2 k hk⟩
theorem mrgK_nil' (l : List (ByteArray × Tr)) : mrgK [] l = l.map fun y => (y.1, none, some y.2) := by rw [mrgK]
theorem zip_sum' {f : Tr → Nat} : ∀ {ns : List ByteArray} {ks : List Tr}, ns.length = ks.length → sumBy (fun y : ByteArray × Tr => f y.2 + 1) (ns.zip ks) = ks.length + sumBy f ks
  | [], [], _ => rfl
  | [], _ :: _, h => by simp at h
  | _ :: _, [], h => by simp at h
  | n :: ns, k :: ks, h => by
    simp only [List.zip_cons_cons, sumBy, zip_sum' (f := f) (show ns.length = ks.length by simpa using h), List.length_cons]; omega
theorem sumBy_map' {α β : Type} {f : β → Nat} {g : α → β} : ∀ {l : List α}, sumBy f (l.map g) = sumBy (fun x => f (g x)) l
  | [] => rfl
  | a :: r => by simp only [List.map_cons, sumBy, sumBy_map' (l := r)]
theorem parts_zero : partsOf zeroT = [] := rfl
theorem unS_eq : ∀ (n : Nat) (a b : Option Tr), ¬ (a = none ∧ b = none) → fineO n a → fineO n b → unS n (a.getD zeroT) (b.getD zeroT) = unT n a b
  | 0, none, none, h, _, _ => absurd ⟨rfl, rfl⟩ h
  | 0, some x, _, _, h, _ => ((h x rfl).1).elim
  | 0, none, some x, _, _, h => ((h x rfl).1).elim
  | n + 1, none, none, h, _, _ => absurd ⟨rfl, rfl⟩ h
  | n + 1, none, some b, _, _, hb => by
    have hb' := hb b rfl
    have h1 : ∀ k, k ∈ kidsOf b → unS n zeroT k = cntT n k + 1 := fun k hk => by
      have hf := fine_kid hb' hk
      have := unS_eq n none (some k) (by simp) (fun x h => by cases h) (fun x h => by cases h; exact hf)
      simp only [Option.getD_none, Option.getD_some] at this
      rw [this]
      cases n with
      | zero => exact hf.1.elim
      | succ n => rfl
    show 1 + sumBy _ (mrgK (partsOf zeroT) (partsOf b)) = cntT (n + 1) b + 1
    have hcg : sumBy (fun y : ByteArray × Tr => unS n zeroT y.2) (partsOf b) = sumBy (fun y => cntT n y.2 + 1) (partsOf b) := sumBy_congr fun y hy => h1 y.2 (parts_kid (x := b) hy).1
    rw [parts_zero, mrgK_nil', sumBy_map']
    show 1 + sumBy (fun y : ByteArray × Tr => unS n zeroT y.2) (partsOf b) = _
    rw [hcg]
    obtain ⟨d, m, t, ns, ks⟩ := b
    have := zip_sum' (f := cntT n) (ns := ns) (ks := ks) hb'.1.2.2.1
    show 1 + sumBy _ (ns.zip ks) = (ks.length + sumBy (cntT n) ks) + 1
    omega
  | n + 1, some a, none, _, ha, _ => by
    have ha' := ha a rfl
    have h1 : ∀ k, k ∈ kidsOf a → unS n k zeroT = cntT n k + 1 := fun k hk => by
      have hf := fine_kid ha' hk
      have := unS_eq n (some k) none (by simp) (fun x h => by cases h; exact hf) (fun x h => by cases h)
      simp only [Option.getD_none, Option.getD_some] at this
      rw [this]
      cases n with
      | zero => exact hf.1.elim
      | succ n => rfl
    show 1 + sumBy _ (mrgK (partsOf a) (partsOf zeroT)) = cntT (n + 1) a + 1
    have hcg : sumBy (fun y : ByteArray × Tr => unS n y.2 zeroT) (partsOf a) = sumBy (fun y => cntT n y.2 + 1) (partsOf a) := sumBy_congr fun y hy => h1 y.2 (parts_kid (x := a) hy).1
    rw [parts_zero, mrgK_nil, sumBy_map']
    show 1 + sumBy (fun y : ByteArray × Tr => unS n y.2 zeroT) (partsOf a) = _
    rw [hcg]
    obtain ⟨d, m, t, ns, ks⟩ := a
    have := zip_sum' (f := cntT n) (ns := ns) (ks := ks) ha'.1.2.2.1
    show 1 + sumBy _ (ns.zip ks) = (ks.length + sumBy (cntT n) ks) + 1
    omega
  | n + 1, some a, some b, _, ha, hb => by
    show 1 + sumBy _ (mrgK (partsOf a) (partsOf b)) = 1 + sumBy _ (mrgK (partsOf a) (partsOf b))
    rw [sumBy_congr (g := fun z : Pr => unT n z.2.1 z.2.2) fun z hz => ?_]
    have ha' := ha a rfl
    have hb' := hb b rfl
    rcases mrgK_mem _ _ z hz with ⟨⟨k, h1, h2⟩, h3⟩ | ⟨h1, k, h2, h3⟩
    · refine unS_eq n z.2.1 z.2.2 (by rw [h1]; simp) (fun x hx => by rw [h1] at hx; cases hx; exact fine_kid ha' (parts_kid h2).1) fun x hx => ?_
      rcases h3 with h3 | ⟨k', nm, h3, h4⟩
      · rw [h3] at hx; cases hx
      · rw [h3] at hx; cases hx; exact fine_kid hb' (parts_kid h4).1
    · exact unS_eq n z.2.1 z.2.2 (by rw [h2]; simp) (fun x hx => by rw [h1] at hx; cases hx) fun x hx => by rw [h2] at hx; cases hx; exact fine_kid hb' (parts_kid h3).1

def leadsB (ms : List Mk) (ps : List ByteArray) : Bool := ms.any fun m => within m.1 ps
/-- What a trail leads to. -/
noncomputable def lookE : Nat → List Mk → List ByteArray → Option Tr → Option Tr → List En
  | 0, _, _, _, _ => []
  | _ + 1, _, _, none, none => []
  | n + 1, _, ps, none, some b => linT fNew (n + 1) ps b
  | _ + 1, _, ps, some _, none => [goneE ps]
  | n + 1, ms, ps, some a, some b =>
    if isDir a = isDir b then
      if underB ms ps = true then walkE (n + 1) ps (some a) (some b)
      else (if markedB ms ps = true then partE ps a b else []) ++ ((mrgK (partsOf a) (partsOf b)).map fun z => if leadsB ms (ps ++ [z.1]) = true then lookE n ms (ps ++ [z.1]) z.2.1 z.2.2 else []).flatten
    else goneE ps :: linT fNew (n + 1) ps b
/-- At how many paths one looks. -/
noncomputable def lookN : Nat → List Mk → List ByteArray → Option Tr → Option Tr → Nat
  | 0, _, _, _, _ => 0
  | _ + 1, _, _, none, none => 0
  | n + 1, _, _, none, some b => cntT (n + 1) b + 1
  | _ + 1, _, _, some _, none => 1
  | n + 1, ms, ps, some a, some b =>
    if isDir a = isDir b then
      if underB ms ps = true then unT (n + 1) (some a) (some b)
      else 1 + sumBy (fun z : Pr => if leadsB ms (ps ++ [z.1]) = true then lookN n ms (ps ++ [z.1]) z.2.1 z.2.2 else 0) (mrgK (partsOf a) (partsOf b))
    else cntT (n + 1) b + 1

theorem lookN_le : ∀ (n : Nat) (ms : List Mk) (ps : List ByteArray) (a b : Option Tr), lookN n ms ps a b ≤ cntO n a + cntO n b
  | 0, _, _, _, _ => by simp [lookN]
  | _ + 1, _, _, none, none => by simp [lookN]
  | n + 1, _, _, none, some b => by simp [lookN, cntO]
  | n + 1, _, _, some a, none => by simp [lookN, cntO]
  | n + 1, ms, ps, some a, some b => by
    simp only [lookN]
    split
    · split
      · exact unT_le _ _ _
      · have h3 : sumBy (fun z : Pr => if leadsB ms (ps ++ [z.1]) = true then lookN n ms (ps ++ [z.1]) z.2.1 z.2.2 else 0) (mrgK (partsOf a) (partsOf b)) ≤ sumBy (fun z : Pr => cntO n z.2.1 + cntO n z.2.2) (mrgK (partsOf a) (partsOf b)) := sumBy_mono fun z _ => by
          have := lookN_le n ms (ps ++ [z.1]) z.2.1 z.2.2
          split <;> omega
        rw [mrgK_sum (A := cntO n) (B := cntO n) rfl rfl] at h3
        obtain ⟨d, m, t, ns, ks⟩ := a
        obtain ⟨d', m', t', ns', ks'⟩ := b
        have h4 := zip_sum (f := cntT n) (ns := ns) (ks := ks)
        have h5 := zip_sum (f := cntT n) (ns := ns') (ks := ks')
        have e1 : cntT (n + 1) (.mk d m t ns ks) = ks.length + sumBy (cntT n) ks := rfl
        have e2 : cntT (n + 1) (.mk d' m' t' ns' ks') = ks'.length + sumBy (cntT n) ks' := rfl
        simp only [cntO, partsOf, namesOf, kidsOf] at h3 ⊢
        omega
    · simp only [cntO]; omega
theorem lookE_len : ∀ (n : Nat) (ms : List Mk) (ps : List ByteArray) (a b : Option Tr), (lookE n ms ps a b).length ≤ cntO n a + 2 * cntO n b
  | 0, _, _, _, _ => by simp [lookE]
  | _ + 1, _, _, none, none => by simp [lookE]
  | n + 1, _, ps, none, some b => by
    have := linT_len fNew (n + 1) ps b
    simp only [lookE, cntO]; omega
  | _ + 1, _, _, some _, none => by simp [lookE, cntO]
  | n + 1, ms, ps, some a, some b => by
    have h1 := linT_len fNew (n + 1) ps b
    simp only [lookE]
    split
    · split
      · exact walkE_len _ _ _ _
      · have h2 := partE_len ps a b
        have h2' : (if markedB ms ps = true then partE ps a b else []).length ≤ 2 := by
          split
          · exact h2
          · simp
        have h3 : ((mrgK (partsOf a) (partsOf b)).map fun z => if leadsB ms (ps ++ [z.1]) = true then lookE n ms (ps ++ [z.1]) z.2.1 z.2.2 else []).flatten.length ≤ sumBy (fun z : Pr => cntO n z.2.1 + 2 * cntO n z.2.2) (mrgK (partsOf a) (partsOf b)) := flat_sum fun z _ => by
          have := lookE_len n ms (ps ++ [z.1]) z.2.1 z.2.2
          split
          · exact this
          · simp
        rw [mrgK_sum (A := cntO n) (B := fun o => 2 * cntO n o) rfl rfl] at h3
        obtain ⟨d, m, t, ns, ks⟩ := a
        obtain ⟨d', m', t', ns', ks'⟩ := b
        have h4 := zip_sum (f := cntT n) (ns := ns) (ks := ks)
        have h5 := zip_sum (f := cntT n) (ns := ns') (ks := ks')
        have h6 : ∀ l : List (ByteArray × Tr), sumBy (fun y => 2 * cntO n (some y.2)) l = 2 * sumBy (fun y : ByteArray × Tr => cntT n y.2 + 1) l := fun l => by
          induction l with
          | nil => rfl
          | cons a r ih =>
            show 2 * (cntT n a.2 + 1) + _ = 2 * ((cntT n a.2 + 1) + _)
            rw [ih]; omega
        rw [h6] at h3
        have e1 : cntT (n + 1) (.mk d m t ns ks) = ks.length + sumBy (cntT n) ks := rfl
        have e2 : cntT (n + 1) (.mk d' m' t' ns' ks') = ks'.length + sumBy (cntT n) ks' := rfl
        simp only [cntO, partsOf, namesOf, kidsOf] at h3 ⊢
        rw [List.length_append]
        omega
    · simp only [cntO, List.length_cons]; omega
end Go.Proofs.YtkbhjejalkbogaaGreat

/- The names of either of two parts, put in one by one; how many paths there are in either: by either hand. -/
set_option linter.unusedVariables false
set_option linter.unusedSimpArgs false
set_option maxRecDepth 20000
namespace Go.Proofs.YtkbhjejalkbogaaGreat
open Go Go.Av

theorem fine_asc {n : Nat} {x : Tr} (h : fineT (n + 1) x) : AscS (namesOf x) := by
  obtain ⟨d, m, t, ns, ks⟩ := x
  exact h.2.2.1
theorem fine_len {n : Nat} {x : Tr} (h : fineT n x) : (namesOf x).length ≤ 100000 := names_len h.1 h.2.1
theorem mrg_kids {n m : Nat} {x y : Tr} (hx : fineT (n + 1) x) (hy : fineT (m + 1) y) : mrgK (partsOf x) (partsOf y) = (namesU (namesOf x ++ namesOf y)).map fun nm => ((nm, kidT x nm, kidT y nm) : Pr) := by
  rw [← mrgK_names (xa := partsOf x) (xb := partsOf y) (by rw [part_names hx.1]; exact fine_asc hx) (by rw [part_names hy.1]; exact fine_asc hy) (namesU_asc (namesOf x ++ namesOf y)) (fun z => by rw [namesU_mem, part_names hx.1, part_names hy.1, List.mem_append])]
  refine List.map_congr_left fun nm _ => ?_
  rw [kid_lk hx.1, kid_lk hy.1]
theorem mrgK_len : ∀ (xa xb : List (ByteArray × Tr)), (mrgK xa xb).length ≤ xa.length + xb.length
  | [], xb => by rw [mrgK]; simp
  | a :: xa, [] => by rw [mrgK]; simp
  | a :: xa, b :: xb => by
    rw [mrgK]
    split
    · have := mrgK_len xa (b :: xb); simp only [List.length_cons] at this ⊢; omega
    · split
      · have := mrgK_len (a :: xa) xb; simp only [List.length_cons] at this ⊢; omega
      · have := mrgK_len xa xb; simp only [List.length_cons] at this ⊢; omega
termination_by xa xb => xa.length + xb.length
theorem names_both {n m : Nat} {x y : Tr} (hx : fineT (n + 1) x) (hy : fineT (m + 1) y) : (namesU (namesOf x ++ namesOf y)).length ≤ 200000 := by
  have h1 := congrArg List.length (mrg_kids hx hy)
  have h2 := mrgK_len (partsOf x) (partsOf y)
  have h3 := fine_len hx
  have h4 := fine_len hy
  rw [List.length_map] at h1
  have e1 : (partsOf x).length ≤ (namesOf x).length := by unfold partsOf; rw [List.length_zip]; omega
  have e2 : (partsOf y).length ≤ (namesOf y).length := by unfold partsOf; rw [List.length_zip]; omega
  omega
/-- A part is read no deeper than it is. -/
theorem RT_short : ∀ (n m : Nat) (rd : Addr → Option Value) (es : List Value) (x : Tr), RT m rd es x → shortT n x → RT n rd es x
  | 0, _, _, _, _, _, h => h.elim
  | n + 1, 0, _, _, _, h, _ => h.elim
  | n + 1, m + 1, rd, es, .mk d mo t ns ks, h, hs => by
    obtain ⟨u, w, h1, h2, h3, h4, A, cap, e1, e2, e3⟩ := h
    refine ⟨u, w, h1, h2, h3, h4, A, cap, e1, e2, fun j y hj => ?_⟩
    obtain ⟨a, es', q1, q2, q3, q4⟩ := e3 j y hj
    exact ⟨a, es', q1, q2, q3, RT_short n m rd es' y q4 (hs.2.2.2.2 y (List.mem_of_getElem? hj))⟩

section
variable {w0 : World} {σ : Vw}

theorem spec_l12Names {n m : Nat} {es es' : List Value} {x y : Tr} (h : RT n (Av.get w0 σ) es x) (h' : RT m (Av.get w0 σ) es' y) (ha : AscS (namesOf x)) (hb : AscS (namesOf y)) (hl : (namesOf x).length ≤ 1000000 ∧ (namesOf y).length ≤ 1000000) {R : Value → Vw → Prop}
    (hR : ∀ v F σ', Keeps σ σ' → OStrs w0 σ' F v (namesU (namesOf x ++ namesOf y)) → (∀ i, i ∈ F → σ i = none) → R v σ') : AC Tryz.prog w0 n_spec_l12Names [.agg ⟨es⟩, .agg ⟨es'⟩] σ R := by
  obtain ⟨u, w, rfl, _, _, h4, _, hp⟩ := h.cells
  obtain ⟨u', w', rfl, _, _, h4', _, hp'⟩ := h'.cells
  refine ac_spec_l12Names ?_
  unfold vc_spec_l12Names
  rw [hp, hp']
  simp only [cellOf_agg, List.getD_cons_zero, List.getD_cons_succ]
  generalize namesOf x = ns at *
  generalize namesOf y = ns' at *
  refine copy_strs h4 (by omega) fun v1 F1 s1 k1 o1 f1 => ?_
  refine loop_rule (m := ns'.length) (fun c l st => ∃ (i : Nat) (v : Value) (F : List Nat) (L : List ByteArray), c + i = ns'.length ∧ Keeps σ st ∧ (∀ j, j ∈ F → σ j = none) ∧ OStrs w0 st F v L ∧ AscS L ∧ (∀ z, z ∈ L ↔ z ∈ ns ∨ z ∈ ns'.take i) ∧ L.length ≤ ns.length + i ∧
      l = [v, .int .i64 (i : Nat), .bool (isDir y), .int .i64 (modeOf y), .string (dataOf y), u', w']) ?_
    ⟨0, v1, F1, ns, by omega, k1, f1, o1, ha, fun z => by simp, by omega, rfl⟩
  rintro c l st L5 ⟨i, v, F, L, hc, ks, hF, ho, hasc, hmem, hll, rfl⟩ hL
  simp only [vget, List.getD_cons_zero, List.getD_cons_succ]
  have hu' := h4'.mono ks.le fun _ _ h => h
  have hov := ho.rel (ok_str w0)
  rw [hu'.len, pBin_lt, pIf_d]
  refine ⟨fun hi => ?_, fun hi => ?_⟩
  · have hyi := List.getElem?_eq_getElem (show i < ns'.length by omega)
    generalize ns'[i]'(by omega) = nm at hyi
    have htk : ns'.take (i + 1) = ns'.take i ++ [nm] := by rw [List.take_add_one, hyi]; rfl
    have INS : ∀ k : Nat, k ≤ L.length → (∀ z, z ∈ L.take k → strLt z nm = true) → (∀ z, L[k]? = some z → strLt nm z = true) →
        pSlice 1 v none (some (.int .i64 (k : Nat))) (fun v25 => pIndexAddr 1 u' (.int .i64 (i : Nat)) (fun v26 => pLoad w0 1 v26 st (fun g27 => pVal false 1 (g27 0) (pSlice 1 v (some (.int .i64 (k : Nat))) none (fun v28 => pNew w0 t_string [] st (fun n29 s30 => (Stay w0 st s30 v26 1) ∧ (pAppendS w0 t_string 1 16 (.slice (some (Addr.mk n29 0 none)) 0 0) v25 s30 (fun v31 s32 => (Stay w0 s30 s32 v26 1) ∧ ((allOne [g27 0]) ∧ (pAppend w0 t_string 1 16 v31 1 [g27 0] s32 (fun v33 s34 => pAppendS w0 t_string 1 16 v33 v28 s34 (fun v35 s36 => pBin Tryz.prog 3 .add (.int .i64 (i : Nat)) (.int .i64 1) (fun v37 => L5 [v35, v37, .bool (isDir y), .int .i64 (modeOf y), .string (dataOf y), u', w'] s36))))))))))))) := by
      intro k hk h1 h2
      refine RSl.take hov hk fun va hva => ?_
      refine RSl.atp hu' hyi fun p g hg => ?_
      obtain ⟨hg, hgs⟩ := hg
      simp only [expl, List.cons.injEq, and_true] at hg
      rw [hg, pVal1 rfl]
      refine RSl.slice hov (l := k) (u := L.length) rfl rfl hk (Nat.le_refl _) fun vb hvb => ?_
      rw [List.take_length] at hvb
      intro b hb1 hb2
      have kb : Keeps st (st.put b ⟨t_string, [], 0, (0, 0)⟩) := Keeps.put hb2
      have hb0 : ∀ i, i ∈ [b] → st i = none := fun i hi => by rw [List.mem_singleton.1 hi]; exact hb2
      refine ⟨kb.stay, ?_⟩
      refine (OAcc.new (w0 := w0) (σ := st) (ety := t_string) (n := 1) (O := OStr) hb1).allX (ok_str w0) hva kb.le (fun es y hy => ⟨rfl, hy⟩) (by simp; omega) (by omega) fun v1 F1 s1 x1 k1 o1 f1 => ?_
      rw [List.nil_append] at o1
      refine ⟨ext_stay x1, ?_⟩
      have K1 := k1.old kb hb0
      have hF1 := fresh_in kb hb0 f1
      refine o1.one (ok_str w0) (f := []) (y := nm) ⟨rfl, rfl, hgs⟩ (fun i hi => by cases hi) (by rw [List.length_take]; omega) (by omega) fun v2 F2 s2 k2 o2 f2 => ?_
      have K2 := k2.old K1 hF1
      have hF2 : ∀ i, i ∈ F2 → st i = none := fresh_in K1 hF1 fun i hi => by
        rcases f2 i hi with e | e | e
        · exact .inl e
        · cases e
        · exact .inr e
      refine o2.all (ok_str w0) hvb K2.le (fun es y hy => ⟨rfl, hy⟩) (by simp only [List.length_append, List.length_take, List.length_drop, List.length_cons, List.length_nil]; omega) (by omega) fun v3 F3 s3 k3 o3 f3 => ?_
      have K3 := k3.old K2 hF2
      have hF3 := fresh_in K2 hF2 f3
      rw [pBin_add (by omega)]
      have eL : L.take k ++ [nm] ++ L.drop k = L.take k ++ nm :: L.drop k := by simp
      rw [eL] at o3
      refine hL _ _ (c - 1) (by omega) ⟨i + 1, v3, F3, _, by omega, ks.trans K3, fun j hj => none_old ks (hF3 j hj), o3.osl, ins_ascS hasc h1 h2, fun z => ?_, ?_, by simp⟩
      · rw [htk]
        have := hmem z
        have hsp : z ∈ L ↔ z ∈ L.take k ∨ z ∈ L.drop k := by
          conv => lhs; rw [← List.take_append_drop k L]
          exact List.mem_append
        simp only [List.mem_append, List.mem_cons, List.mem_singleton, List.not_mem_nil, or_false]
        constructor
        · rintro (h | h | h)
          · rcases this.1 (hsp.2 (.inl h)) with e | e
            · exact .inl e
            · exact .inr (.inl e)
          · exact .inr (.inr h)
          · rcases this.1 (hsp.2 (.inr h)) with e | e
            · exact .inl e
            · exact .inr (.inl e)
        · rintro (h | h | h)
          · rcases hsp.1 (this.2 (.inl h)) with e | e
            · exact .inl e
            · exact .inr (.inr e)
          · rcases hsp.1 (this.2 (.inr h)) with e | e
            · exact .inl e
            · exact .inr (.inr e)
          · exact .inr (.inl h)
      · simp only [List.length_append, List.length_take, List.length_cons, List.length_drop]; omega
    refine loop_rule (m := L.length) (fun c2 l2 st2 => ∃ (k : Nat), c2 + k = L.length ∧ st2 = st ∧ (∀ z, z ∈ L.take k → strLt z nm = true) ∧ l2 = [v, .int .i64 (i : Nat), .int .i64 (k : Nat), .bool (isDir y), .int .i64 (modeOf y), .string (dataOf y), u', w']) ?_
      ⟨0, by omega, rfl, by simp, rfl⟩
    rintro c2 l2 st2 L9 ⟨k, hc2, rfl, hlt, rfl⟩ hL9
    simp only [vget, List.getD_cons_zero, List.getD_cons_succ]
    rw [hov.len, pBin_lt, pIf_d]
    refine ⟨fun hk => ?_, fun hk => ?_⟩
    · have hzk := List.getElem?_eq_getElem (show k < L.length by omega)
      generalize L[k]'(by omega) = zk at hzk
      refine RSl.at1 hov hzk fun g hg hgs => ?_
      refine RSl.at1 hu' hyi fun g' hg' hgs' => ?_
      rw [hg, hg', pBin_slt, pIf_b]
      refine ⟨fun hls => ?_, fun hnl => ?_⟩
      · rw [pBin_add (by omega)]
        refine hL9 _ _ (c2 - 1) (by omega) ⟨k + 1, by omega, rfl, fun z hz => ?_, by simp⟩
        rw [List.take_add_one, hzk] at hz
        rcases List.mem_append.1 hz with e | e
        · exact hlt z e
        · rw [Option.toList_some, List.mem_singleton] at e; rw [e]; exact hls
      · show pLen v _
        rw [hov.len, pBin_eq, pIf_d]
        refine ⟨fun he => by omega, fun _ => ?_⟩
        refine RSl.at1 hov hzk fun g hg hgs => ?_
        refine RSl.at1 hu' hyi fun g' hg' hgs' => ?_
        rw [hg, hg', pBin_sne, pIf_d]
        refine ⟨fun hne => ?_, fun heq => ?_⟩
        · refine INS k (by omega) hlt fun z hz => ?_
          rw [hzk] at hz; cases hz
          cases hs : strLt nm zk with
          | true => rfl
          | false => exact absurd (strLt_total hnl hs) hne
        · have heq := Decidable.not_not.1 heq
          subst heq
          rw [pBin_add (by omega)]
          refine hL _ _ (c - 1) (by omega) ⟨i + 1, v, F, L, by omega, ks, hF, ho, hasc, fun z => ?_, by omega, by simp⟩
          rw [htk, hmem z, List.mem_append, List.mem_singleton]
          refine ⟨fun h => ?_, fun h => ?_⟩
          · rcases h with e | e
            · exact .inl e
            · exact .inr (.inl e)
          · rcases h with e | e | e
            · exact .inl e
            · exact .inr e
            · rw [e]; exact (hmem zk).1 (List.mem_of_getElem? hzk)
    · show pLen v _
      have e : k = L.length := by omega
      rw [hov.len, pBin_eq, pIf_d]
      refine ⟨fun _ => ?_, fun he => absurd (by omega) he⟩
      exact INS k (by omega) hlt fun z hz => by rw [List.getElem?_eq_none (by omega)] at hz; cases hz
  · have e : i = ns'.length := by omega
    subst e
    rw [List.take_length] at hmem
    have : L = namesU (ns ++ ns') := asc_unique hasc (namesU_asc _) fun z => by rw [hmem z, namesU_mem, List.mem_append]
    subst this
    exact hR v F st ks ho hF

theorem spec_l12Kid {n : Nat} {es : List Value} {x : Tr} {nm : ByteArray} (h : RT (n + 1) (Av.get w0 σ) es x) (hx : fineT (n + 1) x) (hs : nm.size ≤ 9223372036854775807) {R : Value → Vw → Prop}
    (hR : ∀ es' s, Keeps σ s → RT (n + 1) (Av.get w0 s) es' ((kidT x nm).getD zeroT) → R (.tuple ⟨[.agg ⟨es'⟩, .bool (kidT x nm).isSome]⟩) s) : AC Tryz.prog w0 n_spec_l12Kid [.agg ⟨es⟩, .string nm] σ R := by
  have h0 := h
  obtain ⟨u, w, rfl, _, _, _, _, hp⟩ := h.cells
  refine ac_spec_l12Kid ?_
  unfold vc_spec_l12Kid
  rw [hp, pVal1 rfl]
  simp only [cellOf_agg, List.getD_cons_zero, List.getD_cons_succ]
  intro b hb1 hb2
  have kb : Keeps σ (σ.put b ⟨t_string, [.string nm], 1, (0, 0)⟩) := Keeps.put hb2
  have hv : RSl 1 RS (Av.get w0 (σ.put b ⟨t_string, [.string nm], 1, (0, 0)⟩)) (.slice (some ⟨b, 0, none⟩) 1 1) [nm] := by
    refine ⟨some ⟨b, 0, none⟩, 1, rfl, by simp, fun j z hj => ?_⟩
    have hj0 : j = 0 := by have := (List.getElem?_eq_some_iff.1 hj).1; simp at this; exact this
    subst hj0
    cases hj
    refine ⟨_, [.string nm], rfl, rfl, fun i hi => ?_, rfl, hs⟩
    have e : i = 0 := by omega
    subst e
    rw [addr_add, get_row hb1 put_at]
  have hat : atT x [nm] = kidT x nm := by
    unfold atT
    cases e : kidT x nm with
    | none => rfl
    | some k => simp [atT]
  refine spec_At [nm] (mono_rt _ _ _ _ _ kb.le h0) (short_wf _ _ hx.1) hv fun es' hes => ?_
  rw [hat] at hes ⊢
  rw [pExtract_s rfl, pExtract_s rfl]
  have hes0 := hes
  obtain ⟨u2, w2, rfl, _, _, _, _, hp2⟩ := hes.cells
  rw [hp2]
  simp only [cellOf_agg, List.getD_cons_zero, List.getD_cons_succ]
  exact hR _ _ kb hes0
theorem kid_fineT {n : Nat} {x : Tr} (h : fineT (n + 1) x) (nm : ByteArray) : fineO n (kidT x nm) := fun k hk => fine_kid h (kid_mem hk)
theorem kid_level {n : Nat} {x : Tr} (h : fineT (n + 1) x) {nm : ByteArray} (hm : nm ∈ namesOf x) : n ≠ 0 := fun e => by
  subst e
  have hne := kid_there h.1 hm
  cases hk : kidT x nm with
  | none => exact hne hk
  | some k => exact (fine_kid h (kid_mem hk)).1

theorem spec_Union : ∀ (n : Nat) {σ : Vw} {es es' : List Value} {x y : Tr} {R : Value → Vw → Prop}, RT n (Av.get w0 σ) es x → RT n (Av.get w0 σ) es' y → fineT n x → fineT n y → (∀ s, Keeps σ s → R (.int .i64 (unS n x y : Nat)) s) → AC Tryz.prog w0 n_spec_l12Union [.agg ⟨es⟩, .agg ⟨es'⟩] σ R := by
  intro n
  induction n with
  | zero => intro σ es es' x y R h; exact h.elim
  | succ n ih =>
    intro σ es es' x y R h h' hx hy hR
    have h0 := h
    have h0' := h'
    obtain ⟨u, w, rfl, _, _, _, _, hp⟩ := h.cells
    obtain ⟨u', w', rfl, _, _, _, _, hp'⟩ := h'.cells
    refine ac_spec_l12Union ?_
    unfold vc_spec_l12Union
    rw [hp, hp']
    simp only [cellOf_agg, List.getD_cons_zero, List.getD_cons_succ]
    have hl1 := fine_len hx
    have hl2 := fine_len hy
    have hun := unT_le (n + 1) (some x) (some y)
    have hune := unS_eq (n + 1) (some x) (some y) (by simp) (fun z hz => by cases hz; exact hx) (fun z hz => by cases hz; exact hy)
    simp only [Option.getD_some] at hune
    have hc1 := hx.2.1
    have hc2 := hy.2.1
    simp only [cntO] at hun
    have hsum : unS (n + 1) x y = 1 + sumBy (fun nm => unS n ((kidT x nm).getD zeroT) ((kidT y nm).getD zeroT)) (namesU (namesOf x ++ namesOf y)) := by
      show 1 + sumBy _ (mrgK (partsOf x) (partsOf y)) = _
      rw [mrg_kids hx hy, sumBy_map']
    have hLm : ∀ z, z ∈ namesU (namesOf x ++ namesOf y) → z ∈ namesOf x ∨ z ∈ namesOf y := fun z hz => by rw [namesU_mem, List.mem_append] at hz; exact hz
    have hLl := names_both hx hy
    refine spec_l12Names h0 h0' (fine_asc hx) (fine_asc hy) (by omega) fun nv F s1 k1 on fn => ?_
    generalize namesU (namesOf x ++ namesOf y) = L at *
    generalize hW : (fun nm => unS n ((kidT x nm).getD zeroT) ((kidT y nm).getD zeroT)) = W at hsum
    refine loop_rule (m := L.length) (fun c l st => ∃ j : Nat, c + j = L.length ∧ Keeps σ st ∧ OStrs w0 st F nv L ∧
        l = [.int .i64 ((1 + sumBy W (L.take j) : Nat) : Int), nv, .int .i64 (j : Nat), .bool (isDir x), .int .i64 (modeOf x), .string (dataOf x), u, w, .bool (isDir y), .int .i64 (modeOf y), .string (dataOf y), u', w']) ?_
      ⟨0, by omega, k1, on, by simp [sumBy]⟩
    rintro c l st L' ⟨j, hcj, ks, hon, rfl⟩ hL'
    simp only [vget, List.getD_cons_zero, List.getD_cons_succ]
    have onr := hon.rel (ok_str w0)
    rw [onr.len, pBin_lt, pIf_d]
    refine ⟨fun hj => ?_, fun hj => ?_⟩
    · have hnm := List.getElem?_eq_getElem (show j < L.length by omega)
      generalize L[j]'(by omega) = nm at hnm
      have hmem := hLm nm (List.mem_of_getElem? hnm)
      have hn0 : n ≠ 0 := by
        rcases hmem with hm | hm
        · exact kid_level hx hm
        · exact kid_level hy hm
      obtain ⟨n', rfl⟩ := Nat.exists_eq_succ_of_ne_zero hn0
      refine RSl.at1 onr hnm fun g hg hgs => ?_
      rw [hg]
      refine spec_l12Kid (mono_rt _ _ _ _ _ ks.le h0) hx hgs fun e1 s2 k2 r1 => ?_
      have r10 := r1
      obtain ⟨u2, w2, rfl, _, _, _, _, hp2⟩ := r1.cells
      rw [pExtract_s rfl, pExtract_s rfl, hp2]
      refine RSl.at1 (onr.mono k2.le fun _ _ h => h) hnm fun g' hg' _ => ?_
      rw [hg']
      refine spec_l12Kid (mono_rt _ _ _ _ _ (ks.trans k2).le h0') hy hgs fun e2 s3 k3 r2 => ?_
      have r20 := r2
      obtain ⟨u3, w3, rfl, _, _, _, _, hp3⟩ := r2.cells
      rw [pExtract_s rfl, pExtract_s rfl, hp3]
      simp only [cellOf_agg, List.getD_cons_zero, List.getD_cons_succ]
      have f1 := fine_getD (kid_fineT hx nm)
      have f2 := fine_getD (kid_fineT hy nm)
      refine ih (RT_short _ _ _ _ _ (mono_rt _ _ _ _ _ k3.le r10) f1.1) (RT_short _ _ _ _ _ r20 f2.1) f1 f2 fun s4 k4 => ?_
      have hW1 : unS (n' + 1) ((kidT x nm).getD zeroT) ((kidT y nm).getD zeroT) = W nm := by rw [← hW]
      rw [hW1]
      have hst := sumBy_take (f := W) hnm
      have hsl := sumBy_le (f := W) (xs := L) (j + 1)
      rw [pBin_add (by omega), pBin_add (by omega)]
      have K := (k2.trans k3).trans k4
      refine hL' _ _ (c - 1) (by omega) ⟨j + 1, by omega, ks.trans K, hon.frame (ok_str w0) (K.but_at fun i hi => (hon.dom (ok_str w0) i hi).2), ?_⟩
      rw [hst]
      congr 2
      omega
    · have e : j = L.length := by omega
      subst e
      rw [List.take_length]
      show R (.int .i64 ((1 + sumBy W L : Nat) : Int)) st
      rw [← hsum]
      exact hR st ks
end
end Go.Proofs.YtkbhjejalkbogaaGreat

/- Marks put in and made coarser by the reference's hand. -/
set_option linter.unusedVariables false
set_option linter.unusedSimpArgs false
namespace Go.Proofs.YtkbhjejalkbogaaGreat
open Go Go.Av

section
variable {w0 : World} {σ : Vw}

end
end Go.Proofs.YtkbhjejalkbogaaGreat

/- The trail to which a mark is added, by the reference's hand. -/
set_option linter.unusedVariables false
set_option linter.unusedSimpArgs false
namespace Go.Proofs.YtkbhjejalkbogaaGreat
open Go Go.Av

section
variable {w0 : World} {σ : Vw}

end
end Go.Proofs.YtkbhjejalkbogaaGreat

/- The trail to which a mark is added, by the program's hand. -/
set_option linter.unusedVariables false
set_option linter.unusedSimpArgs false
namespace Go.Proofs.YtkbhjejalkbogaaGreat
open Go Go.Av

section
variable {w0 : World} {σ : Vw}

end
end Go.Proofs.YtkbhjejalkbogaaGreat

/- The law 'TrailAdd', of the functions alone. -/
set_option linter.unusedVariables false
set_option linter.unusedSimpArgs false
namespace Go.Proofs.YtkbhjejalkbogaaGreat
open Go Go.Av

section
variable {w0 : World} {σ : Vw}

theorem cMk_sz {l : List Mk} : sumBy cMk l ≤ l.length + sumBy szMk l := by
  induction l with
  | nil => simp [sumBy]
  | cons a r ih =>
    simp only [sumBy, List.length_cons, cMk, szMk] at *
    omega
end
end Go.Proofs.YtkbhjejalkbogaaGreat

/- How many paths there are in either of two parts, by the program's hand; 'TrailBelow' and its law. -/
set_option linter.unusedVariables false
set_option linter.unusedSimpArgs false
set_option maxRecDepth 20000
namespace Go.Proofs.YtkbhjejalkbogaaGreat
open Go Go.Av

section
variable {w0 : World} {σ : Vw}

theorem impl_both : ∀ (n : Nat) {σ : Vw} {p q : Value} {a b : Option Tr} {R : Value → Vw → Prop}, PO n (Av.get w0 σ) p a → PO n (Av.get w0 σ) q b → fineO n a → fineO n b → (∀ s, Keeps σ s → R (.int .i64 (unT n a b : Nat)) s) → AC Tryz.prog w0 n_impl_both [p, q] σ R := by
  intro n
  induction n with
  | zero =>
    intro σ p q a b R ha hb _ _ hR
    cases a with
    | some x => obtain ⟨_, _, _, _, _, h⟩ := ha; exact h.elim
    | none => cases b with
      | some x => obtain ⟨_, _, _, _, _, h⟩ := hb; exact h.elim
      | none =>
        obtain rfl : p = .pointer none := ha
        obtain rfl : q = .pointer none := hb
        refine ac_impl_both ?_
        unfold vc_impl_both
        rw [pBin_nil ptr_tree, pIf_b]
        refine ⟨fun _ => ?_, fun h => by cases h⟩
        rw [pBin_nil ptr_tree, pIf_b]
        exact ⟨fun _ => hR _ (Keeps.refl _), fun h => by cases h⟩
  | succ n ih =>
    intro σ p q a b R ha hb hfa hfb hR
    refine ac_impl_both ?_
    unfold vc_impl_both
    have hun := unT_le (n + 1) a b
    cases a with
    | none =>
      obtain rfl : p = .pointer none := ha
      rw [pBin_nil ptr_tree, pIf_b]
      refine ⟨fun _ => ?_, fun h => by cases h⟩
      cases b with
      | none =>
        obtain rfl : q = .pointer none := hb
        rw [pBin_nil ptr_tree, pIf_b]
        exact ⟨fun _ => hR _ (Keeps.refl _), fun h => by cases h⟩
      | some y =>
        obtain ⟨f1, f2, f3⟩ := hfb y rfl
        have hb' := hb
        obtain ⟨ad, es, rfl, _⟩ := hb'
        rw [pBin_nil ptr_tree, pIf_b]
        refine ⟨fun h => (by cases h), fun _ => ?_⟩
        rw [pBin_nil ptr_tree, pIf_b]
        refine ⟨fun _ => ?_, fun h => by cases h⟩
        rw [pNil_s]
        refine PT.load hb fun g hg => ?_
        refine impl_paths (n + 1) hg (by omega) ?_
        exact hR _ (Keeps.refl _)
    | some x =>
      obtain ⟨a1, a2, a3⟩ := hfa x rfl
      have ha' := ha
      obtain ⟨ad, es, rfl, _⟩ := ha'
      rw [pBin_nil ptr_tree, pIf_b]
      refine ⟨fun h => (by cases h), fun _ => ?_⟩
      rw [pBin_nil ptr_tree, pIf_b]
      refine ⟨fun h => (by cases h), fun _ => ?_⟩
      cases b with
      | none =>
        obtain rfl : q = .pointer none := hb
        rw [pBin_nil ptr_tree, pIf_b]
        refine ⟨fun _ => ?_, fun h => by cases h⟩
        rw [pNil_s]
        refine PT.load ha fun g hg => ?_
        refine impl_paths (n + 1) hg (by omega) ?_
        exact hR _ (Keeps.refl _)
      | some y =>
        obtain ⟨b1, b2, b3⟩ := hfb y rfl
        have hb' := hb
        obtain ⟨bd, es', rfl, _⟩ := hb'
        have ha : PT (n + 1) (Av.get w0 σ) (.pointer (some ad)) x := ha
        have hb : PT (n + 1) (Av.get w0 σ) (.pointer (some bd)) y := hb
        rw [pBin_nil ptr_tree, pIf_b]
        refine ⟨fun h => (by cases h), fun _ => ?_⟩
        have hx : fineT (n + 1) x := ⟨a1, a2, a3⟩
        have hy : fineT (n + 1) y := ⟨b1, b2, b3⟩
        have hl1 := fine_len hx
        have hl2 := fine_len hy
        simp only [cntO] at hun
        have hsum : unT (n + 1) (some x) (some y) = 1 + sumBy (fun nm => unT n (kidT x nm) (kidT y nm)) (namesU (namesOf x ++ namesOf y)) := by
          show 1 + sumBy _ (mrgK (partsOf x) (partsOf y)) = _
          rw [mrg_kids hx hy, sumBy_map']
        have hLl := names_both hx hy
        refine impl_either ha hb (by omega) fun nv F s1 k1 on fn => ?_
        rw [(on.rel (ok_str w0)).len]
        generalize namesU (namesOf x ++ namesOf y) = L at *
        generalize hW : (fun nm => unT n (kidT x nm) (kidT y nm)) = W at hsum
        refine loop_rule (m := L.length) (fun c l st => ∃ j : Nat, c + j = L.length ∧ Keeps σ st ∧ OStrs w0 st F nv L ∧
            l = [.pointer (some ad), .pointer (some bd), .int .i64 ((1 + sumBy W (L.take j) : Nat) : Int), nv, .int .i64 (L.length : Nat), .int .i64 (j : Nat)]) ?_
          ⟨0, by omega, k1, on, by simp [sumBy]⟩
        rintro c l st L' ⟨j, hcj, ks, hon, rfl⟩ hL'
        simp only [vget, List.getD_cons_zero, List.getD_cons_succ]
        have onr := hon.rel (ok_str w0)
        rw [pBin_lt, pIf_d]
        refine ⟨fun hj => ?_, fun hj => ?_⟩
        · have hnm := List.getElem?_eq_getElem (show j < L.length by omega)
          generalize L[j]'(by omega) = nm at hnm
          refine RSl.at1 onr hnm fun g hg hgs => ?_
          rw [hg]
          refine impl_kid (ha.mono ks.le) (short_wf _ _ a1) fun qa hqa => ?_
          refine impl_kid (hb.mono ks.le) (short_wf _ _ b1) fun qb hqb => ?_
          refine ih hqa hqb (kid_fine hfa nm) (kid_fine hfb nm) fun s4 k4 => ?_
          have hW1 : unT n (kidT x nm) (kidT y nm) = W nm := by rw [← hW]
          rw [hW1]
          have hst := sumBy_take (f := W) hnm
          have hsl := sumBy_le (f := W) (xs := L) (j + 1)
          rw [pBin_add (by omega), pBin_add (by omega)]
          refine hL' _ _ (c - 1) (by omega) ⟨j + 1, by omega, ks.trans k4, hon.frame (ok_str w0) (k4.but_at fun i hi => (hon.dom (ok_str w0) i hi).2), ?_⟩
          rw [hst]
          congr 4
          omega
        · have e : j = L.length := by omega
          subst e
          rw [List.take_length]
          show R (.int .i64 ((1 + sumBy W L : Nat) : Int)) st
          rw [← hsum]
          exact hR st ks

theorem ok_fineT {n : Nat} {x : Tr} (h : treeOk n x = true) : (∀ rd es, RT n rd es x → RT 5 rd es x) ∧ fineT 5 x ∧ cntT 5 x ≤ 30 := by
  obtain ⟨d1, x1, c1, a1⟩ := ok_fine h
  exact ⟨d1, ⟨x1, by omega, a1⟩, c1⟩

theorem PT_of {n : Nat} {s : Vw} {p : Value} {z : Tr} (hd : ∀ rd es, RT n rd es z → RT 5 rd es z) (hp : PT n (Av.get w0 s) p z) : PT 5 (Av.get w0 s) p z := by
  obtain ⟨ad, es, q1, q2, q3, q4⟩ := hp
  exact ⟨ad, es, q1, q2, q3, hd _ _ q4⟩

end
end Go.Proofs.YtkbhjejalkbogaaGreat

/- Whether all that differs is marked, by either hand; 'TrailCovers' and its law. -/
set_option linter.unusedVariables false
set_option linter.unusedSimpArgs false
set_option maxRecDepth 20000
namespace Go.Proofs.YtkbhjejalkbogaaGreat
open Go Go.Av

section
variable {w0 : World} {σ : Vw}

end
end Go.Proofs.YtkbhjejalkbogaaGreat

/- What a trail leads to, by the program's hand. -/
set_option linter.unusedVariables false
set_option linter.unusedSimpArgs false
set_option maxRecDepth 20000
namespace Go.Proofs.YtkbhjejalkbogaaGreat
open Go Go.Av

theorem leads_take {ms : List Mk} {p : List ByteArray} {j : Nat} {x : Mk} (h : ms[j]? = some x) : leadsB (ms.take (j + 1)) p = (leadsB (ms.take j) p || within x.1 p) := by
  unfold leadsB
  rw [List.take_add_one, h, List.any_append]; simp
theorem leads_hit {ms : List Mk} {p : List ByteArray} {j : Nat} {x : Mk} (h : ms[j]? = some x) (h2 : within x.1 p = true) : leadsB ms p = true := List.any_eq_true.2 ⟨x, List.mem_of_getElem? h, h2⟩
noncomputable def lookW (n : Nat) (ms : List Mk) (ps : List ByteArray) (x y : Tr) (nm : ByteArray) : List En := if leadsB ms (ps ++ [nm]) = true then lookE n ms (ps ++ [nm]) (kidT x nm) (kidT y nm) else []
noncomputable def lookV (n : Nat) (ms : List Mk) (ps : List ByteArray) (x y : Tr) (nm : ByteArray) : Nat := if leadsB ms (ps ++ [nm]) = true then lookN n ms (ps ++ [nm]) (kidT x nm) (kidT y nm) else 0
theorem lookE_names {n : Nat} {ms : List Mk} {ps : List ByteArray} {x y : Tr} (hx : fineT (n + 1) x) (hy : fineT (n + 1) y) (hd : isDir x = isDir y) (hu : underB ms ps = false) :
    lookE (n + 1) ms ps (some x) (some y) = (if markedB ms ps = true then partE ps x y else []) ++ ((namesU (namesOf x ++ namesOf y)).map (lookW n ms ps x y)).flatten ∧
    lookN (n + 1) ms ps (some x) (some y) = 1 + sumBy (lookV n ms ps x y) (namesU (namesOf x ++ namesOf y)) := by
  simp only [lookE, lookN]
  have hu' : ¬ underB ms ps = true := by rw [hu]; simp
  rw [if_pos hd, if_pos hd, if_neg hu', if_neg hu', mrg_kids hx hy, List.map_map, sumBy_map']
  exact ⟨rfl, rfl⟩

section
variable {w0 : World} {σ : Vw}

theorem impl_leads {v v' : Value} {ms : List Mk} {p : List ByteArray} (h : RSl 2 RMk (Av.get w0 σ) v ms) (h' : RSl 1 RS (Av.get w0 σ) v' p) {R : Value → Vw → Prop} (hR : R (.bool (leadsB ms p)) σ) : AC Tryz.prog w0 n_impl_leads [v, v'] σ R := by
  refine ac_impl_leads ?_
  unfold vc_impl_leads
  have hl := h.le
  rw [h.len]
  refine loop_rule (m := ms.length) (fun m l t => ∃ j, t = σ ∧ m + j = ms.length ∧ leadsB (ms.take j) p = false ∧ l = [v', .bool false, v, .int .i64 (ms.length : Nat), .int .i64 (j : Nat)]) ?_ ⟨0, rfl, by omega, rfl, rfl⟩
  rintro m l t L ⟨j, rfl, hm, ht, rfl⟩ hL
  simp only [vget, List.getD_cons_zero, List.getD_cons_succ]
  rw [pBin_lt, pIf_d]
  refine ⟨fun hj => ?_, fun hj => ?_⟩
  · have hx := List.getElem?_eq_getElem (show j < ms.length by omega)
    generalize ms[j]'(by omega) = x at hx
    refine RSl.at h hx fun g hg => ?_
    obtain ⟨u, hu, ru⟩ := hg
    simp only [expl, List.cons.injEq, and_true] at hu
    rw [hu.1, hu.2, pVal_2 ru.one rfl]
    refine impl_begins ru h' ?_
    rw [pIf_b]
    refine ⟨fun hw => ?_, fun hw => ?_⟩
    · rw [leads_hit hx hw] at hR; exact hR
    · rw [pBin_add (by omega)]
      exact hL _ _ (m - 1) (by omega) ⟨j + 1, rfl, by omega, by rw [leads_take hx, ht, hw]; rfl, by simp⟩
  · have e : j = ms.length := by omega
    subst e
    rw [List.take_length] at ht
    rw [ht] at hR; exact hR

/-- The names one by one. -/
def VIL (w0 : World) (v p q mv out : Value) (s : Vw) (R : Value → Vw → Prop) : Prop :=
  AC Tryz.prog w0 n_impl_either [p, q] s (fun v36 s37 => pLen v36 (fun v38 => pLoop (fun l39 K40 s41 => pBin Tryz.prog 3 .lss (vget l39 8) (vget l39 7) (fun v42 => pIf v42 (pIndexAddr 1 (vget l39 6) (vget l39 8) (fun v43 => pLoad w0 1 v43 s41 (fun g44 => AC Tryz.prog w0 n_impl_below [vget l39 0, g44 0] s41 (fun v45 s46 => AC Tryz.prog w0 n_impl_leads [vget l39 3, v45] s46 (fun v47 s48 => pIf v47 (AC Tryz.prog w0 n_p_impl_Tree_kid [vget l39 1, g44 0] s48 (fun v49 s50 => AC Tryz.prog w0 n_p_impl_Tree_kid [vget l39 2, g44 0] s50 (fun v51 s52 => AC Tryz.prog w0 n_impl_look [v45, v49, v51, vget l39 3] s52 (fun v53 s54 => pExtract v53 0 (fun v55 => pExtract v53 1 (fun v56 => pAppendS w0 t_impl_Entry 5 64 (vget l39 4) v55 s54 (fun v57 s58 => pBin Tryz.prog 3 .add (vget l39 5) v56 (fun v59 => pBin Tryz.prog 3 .add (vget l39 8) (.int .i64 1) (fun v60 => K40 AX.normal [vget l39 0, vget l39 1, vget l39 2, vget l39 3, v57, v59, vget l39 6, vget l39 7, v60] s58))))))))) (pBin Tryz.prog 3 .add (vget l39 8) (.int .i64 1) (fun v61 => K40 AX.normal [vget l39 0, vget l39 1, vget l39 2, vget l39 3, vget l39 4, vget l39 5, vget l39 6, vget l39 7, v61] s48))))))) (K40 (AX.exit 1) [vget l39 0, vget l39 1, vget l39 2, vget l39 3, vget l39 4, vget l39 5, vget l39 6, vget l39 7, vget l39 8] s41))) [v, p, q, mv, out, .int .i64 1, v36, v38, .int .i64 0] s37 (fun x62 l63 s64 => match x62 with | .normal => R (.tuple (⟨[vget l63 4, vget l63 5]⟩)) s64 | .ret => False | .exit i65 => (match Nat.beq i65 1 with | true => R (.tuple (⟨[vget l63 4, vget l63 5]⟩)) s64 | false => False))))

set_option maxHeartbeats 4000000 in
theorem impl_look : ∀ (n : Nat) {σ : Vw} {v mv p q : Value} {ps : List ByteArray} {ms : List Mk} {a b : Option Tr} {R : Value → Vw → Prop}, n ≤ 5 → RSl 1 RS (Av.get w0 σ) v ps → RSl 2 RMk (Av.get w0 σ) mv ms → PO n (Av.get w0 σ) p a → PO n (Av.get w0 σ) q b → fineO n a → fineO n b →
    ¬ (a = none ∧ b = none) → ps.length + sumS ps + 6 * n ≤ 1000000 → (∀ v' G s', Keeps σ s' → OAcc w0 t_impl_Entry 5 (OEn w0) s' G v' (lookE n ms ps a b) → (∀ i, i ∈ G → σ i = none) → R (.tuple ⟨[v', .int .i64 (lookN n ms ps a b : Nat)]⟩) s') →
    AC Tryz.prog w0 n_impl_look [v, p, q, mv] σ R := by
  intro n
  induction n with
  | zero =>
    intro σ v mv p q ps ms a b R _ _ _ ha hb _ _ hne
    exfalso
    cases a with
    | some x => obtain ⟨_, _, _, _, _, h⟩ := ha; exact h
    | none => cases b with
      | some x => obtain ⟨_, _, _, _, _, h⟩ := hb; exact h
      | none => exact hne ⟨rfl, rfl⟩
  | succ n ih =>
    intro σ v mv p q ps ms a b R hn5 hv hm ha hb hfa hfb hne hps hR
    have hel := lookE_len (n + 1) ms ps a b
    have hnl := lookN_le (n + 1) ms ps a b
    refine ac_impl_look ?_
    unfold vc_impl_look
    cases a with
    | none =>
      obtain rfl : p = .pointer none := ha
      cases b with
      | none => exact absurd ⟨rfl, rfl⟩ hne
      | some y =>
        obtain ⟨f1, f2, f3⟩ := hfb y rfl
        have hb' := hb
        obtain ⟨ad, es, rfl, _⟩ := hb'
        rw [pBin_nil ptr_tree, pIf_b]
        refine ⟨fun _ => ?_, fun h => by cases h⟩
        rw [pNil_s]
        refine PT.load hb fun g hg => ?_
        rw [pNil_s]
        refine PT.load hb fun g2 hg2 => ?_
        refine impl_fresh hv hg hn5 f1 f2 hps fun v1 G1 s1 k1 o1 q1 => ⟨k1.stay, ?_⟩
        refine impl_paths (n + 1) (mono_rt _ _ _ _ _ k1.le hg2) (by omega) ?_
        exact hR v1 G1 s1 k1 o1 q1
    | some x =>
      obtain ⟨a1, a2, a3⟩ := hfa x rfl
      have ha' := ha
      obtain ⟨ad, es, rfl, _⟩ := ha'
      rw [pBin_nil ptr_tree, pIf_b]
      refine ⟨fun h => (by cases h), fun _ => ?_⟩
      cases b with
      | none =>
        obtain rfl : q = .pointer none := hb
        rw [pBin_nil ptr_tree, pIf_b]
        refine ⟨fun _ => ?_, fun h => by cases h⟩
        refine impl_gone hv (by omega) fun v1 P s1 k1 o1 f1 => ?_
        rw [pVal_5 (OSl.one' o1) rfl rfl rfl rfl]
        simp only [cellOf_agg, List.getD_cons_zero, List.getD_cons_succ]
        intro b hb1 hb2
        refine hR _ _ _ (k1.trans (Keeps.put hb2)) (OAcc.single (ok_en w0) (ety := t_impl_Entry) hb1 hb2 (gone_own o1)) fun i hi => ?_
        rcases List.mem_cons.1 hi with rfl | hi
        · exact none_old k1 hb2
        · exact f1 i hi
      | some y =>
        obtain ⟨b1, b2, b3⟩ := hfb y rfl
        have hb' := hb
        obtain ⟨bd, es', rfl, _⟩ := hb'
        have hx : fineT (n + 1) x := ⟨a1, a2, a3⟩
        have hy : fineT (n + 1) y := ⟨b1, b2, b3⟩
        have hb0 := hb
        have ha0 := ha
        have ha : PT (n + 1) (Av.get w0 σ) (.pointer (some ad)) x := ha
        have hb : PT (n + 1) (Av.get w0 σ) (.pointer (some bd)) y := hb
        rw [pBin_nil ptr_tree, pIf_b]
        refine ⟨fun h => (by cases h), fun _ => ?_⟩
        refine PT.ld ha 0 (by omega) fun es1 g1 he1 hg1 => ?_
        obtain ⟨u1, w1, rfl, _⟩ := he1.cells
        simp only [List.getElem?_cons_zero, Option.some.injEq] at hg1
        refine PT.ld hb 0 (by omega) fun es2 g2 he2 hg2 => ?_
        obtain ⟨u2, w2, rfl, _⟩ := he2.cells
        simp only [List.getElem?_cons_zero, Option.some.injEq] at hg2
        have eb : ∀ K : Value → Prop, pBin Tryz.prog 4 .neq (.bool (isDir x)) (.bool (isDir y)) K ↔ K (.bool !(isDir x == isDir y)) := fun K => pBin_b (by kernel_rfl) rfl
        rw [← hg1, ← hg2, eb, pIf_b]
        have wlk : ∀ {s : Vw} {K : Value → Vw → Prop}, Keeps σ s → (∀ v' G s', Keeps s s' → OAcc w0 t_impl_Entry 5 (OEn w0) s' G v' (walkE (n + 1) ps (some x) (some y)) → (∀ i, i ∈ G → s i = none) → K v' s') → AC Tryz.prog w0 n_impl_walk [v, .pointer (some ad), .pointer (some bd)] s K := fun {s K} k hK =>
          impl_walk (n + 1) (a := some x) (b := some y) hn5 (hv.mono k.le fun _ _ h => h) (ha.mono k.le) (hb.mono k.le) hfa hfb (fun h => by cases h.1) hps hK
        refine ⟨fun hd => ?_, fun hd => ?_⟩
        · have hd' : ¬ isDir x = isDir y := by simpa using hd
          rw [pNil_s]
          refine PT.load hb fun g hg => ?_
          refine wlk (Keeps.refl _) fun v1 G1 s1 k1 o1 q1 => ⟨k1.stay, ?_⟩
          refine impl_paths (n + 1) (mono_rt _ _ _ _ _ k1.le hg) (by omega) ?_
          have e1 : lookE (n + 1) ms ps (some x) (some y) = walkE (n + 1) ps (some x) (some y) := by simp only [lookE, walkE]; rw [if_neg hd', if_neg hd']
          have e2 : lookN (n + 1) ms ps (some x) (some y) = cntT (n + 1) y + 1 := by simp only [lookN]; rw [if_neg hd']
          have := hR v1 G1 s1 k1 (by rw [e1]; exact o1) q1
          rw [e2] at this; exact this
        have hd' : isDir x = isDir y := by simpa using hd
        refine impl_under hm hv ?_
        rw [pIf_b]
        refine ⟨fun hu => ?_, fun hu => ?_⟩
        · refine wlk (Keeps.refl _) fun v1 G1 s1 k1 o1 q1 => ?_
          refine impl_both (n + 1) (a := some x) (b := some y) (ha.mono k1.le) (hb.mono k1.le) hfa hfb fun s2 k2 => ?_
          have e1 : lookE (n + 1) ms ps (some x) (some y) = walkE (n + 1) ps (some x) (some y) := by simp only [lookE]; rw [if_pos hd', if_pos hu]
          have e2 : lookN (n + 1) ms ps (some x) (some y) = unT (n + 1) (some x) (some y) := by simp only [lookN]; rw [if_pos hd', if_pos hu]
          have := hR v1 G1 s2 (k1.trans k2) (by rw [e1]; exact o1.frame (ok_en w0) (k2.but_at fun i hi => (o1.dom (ok_en w0) i hi).2)) q1
          rw [e2] at this; exact this
        obtain ⟨eE, eN⟩ := lookE_names (ms := ms) (ps := ps) hx hy hd' hu
        rw [eE, eN] at hR
        rw [eE] at hel
        rw [eN] at hnl
        simp only [cntO] at hel hnl
        have hl1 := fine_len hx
        have hl2 := fine_len hy
        have hLl := names_both hx hy
        have hLm : ∀ z, z ∈ namesU (namesOf x ++ namesOf y) → z ∈ namesOf x ∨ z ∈ namesOf y := fun z hz => by rw [namesU_mem, List.mem_append] at hz; exact hz
        clear eE eN
        -- the names one by one
        have LOOP : ∀ (s : Vw) (ov : Value) (G1 : List Nat) (pe : List En), pe = (if markedB ms ps = true then partE ps x y else []) → Keeps σ s → OAcc w0 t_impl_Entry 5 (OEn w0) s G1 ov pe → (∀ i, i ∈ G1 → σ i = none) → VIL w0 v (.pointer (some ad)) (.pointer (some bd)) mv ov s R := by
          intro s ov G1 pe hpe k0 o1 f1
          rw [← hpe] at hR hel
          unfold VIL
          refine impl_either (ha.mono k0.le) (hb.mono k0.le) (by omega) fun nv F s2 k2 on fn => ?_
          rw [(on.rel (ok_str w0)).len]
          generalize namesU (namesOf x ++ namesOf y) = L at *
          generalize hW : lookW n ms ps x y = W at hR hel
          generalize hV : lookV n ms ps x y = V at hR hnl
          have o1' := o1.frame (ok_en w0) (k2.but_at fun i hi => (o1.dom (ok_en w0) i hi).2)
          refine loop_rule (m := L.length) (fun c l st => ∃ (j : Nat) (G : List Nat) (acc : Value), c + j = L.length ∧ Keeps σ st ∧ (∀ i, i ∈ G → σ i = none) ∧ OAcc w0 t_impl_Entry 5 (OEn w0) st G acc (pe ++ ((L.take j).map W).flatten) ∧
              OStrs w0 st F nv L ∧ (∀ i, i ∈ F → i ∉ G) ∧ l = [v, .pointer (some ad), .pointer (some bd), mv, acc, .int .i64 ((1 + sumBy V (L.take j) : Nat) : Int), nv, .int .i64 (L.length : Nat), .int .i64 (j : Nat)]) ?_
            ⟨0, G1, ov, by omega, k0.trans k2, f1, by simpa using o1', on, fun i hi hi' => (o1.dom (ok_en w0) i hi').2 (fn i hi), by simp [sumBy]⟩
          rintro c l st L' ⟨j, G, acc, hcj, ks0, hG, ho, hon, hFG, rfl⟩ hL'
          simp only [vget, List.getD_cons_zero, List.getD_cons_succ]
          rw [pBin_lt, pIf_d]
          refine ⟨fun hj => ?_, fun hj => ?_⟩
          · have hnm := List.getElem?_eq_getElem (show j < L.length by omega)
            generalize L[j]'(by omega) = nm at hnm
            have hmem := hLm nm (List.mem_of_getElem? hnm)
            have hsz : nm.size ≤ 5 := by
              rcases hmem with h | h
              · exact name_short a1 h
              · exact name_short b1 h
            refine RSl.at1 (hon.rel (ok_str w0)) hnm fun g hg hgs => ?_
            rw [hg]
            refine below_path (hv.mono ks0.le fun _ _ h => h) (by omega) (by omega) fun pv PF s3 k3 op fp => ?_
            have K3 := ks0.trans k3
            have ho3 := ho.frame (ok_en w0) (k3.but_at fun i hi => (ho.dom (ok_en w0) i hi).2)
            have hon3 := hon.frame (ok_str w0) (k3.but_at fun i hi => (hon.dom (ok_str w0) i hi).2)
            have hst := sumBy_take (f := V) hnm
            have hsl := sumBy_le (f := V) (xs := L) (j + 1)
            have hft := flat_take (f := W) hnm
            refine impl_leads (hm.mono K3.le fun _ _ => mono_mk K3.le) (op.rel (ok_str w0)) ?_
            rw [pIf_b]
            refine ⟨fun hld => ?_, fun hld => ?_⟩
            · refine impl_kid (ha.mono K3.le) (short_wf _ _ a1) fun qa hqa => ?_
              refine impl_kid (hb.mono K3.le) (short_wf _ _ b1) fun qb hqb => ?_
              have hne' : ¬ (kidT x nm = none ∧ kidT y nm = none) := fun h => by
                rcases hmem with hm | hm
                · exact kid_there a1 hm h.1
                · exact kid_there b1 hm h.2
              have hW1 : W nm = lookE n ms (ps ++ [nm]) (kidT x nm) (kidT y nm) := by rw [← hW, lookW, if_pos hld]
              have hV1 : V nm = lookN n ms (ps ++ [nm]) (kidT x nm) (kidT y nm) := by rw [← hV, lookV, if_pos hld]
              refine ih (by omega) (op.rel (ok_str w0)) (hm.mono K3.le fun _ _ => mono_mk K3.le) hqa hqb (kid_fine hfa nm) (kid_fine hfb nm) hne' (by rw [List.length_append, sumS_snoc]; simp only [List.length_cons, List.length_nil]; omega) fun v4 G4 s4 k4 o4 f4 => ?_
              rw [← hW1] at o4
              rw [← hV1]
              rw [pExtract_s rfl, pExtract_s rfl]
              have ho4 := ho3.frame (ok_en w0) (k4.but_at fun i hi => (ho3.dom (ok_en w0) i hi).2)
              have hon4 := hon3.frame (ok_str w0) (k4.but_at fun i hi => (hon3.dom (ok_str w0) i hi).2)
              have hlen : (pe ++ ((L.take j).map W).flatten).length + (W nm).length ≤ 900000 := by
                have e2 : ((L.map W).flatten).length = (((L.take (j + 1)).map W).flatten).length + (((L.drop (j + 1)).map W).flatten).length := by
                  rw [← List.length_append, ← List.flatten_append, ← List.map_append, List.take_append_drop]
                rw [hft, List.length_append] at e2
                rw [List.length_append] at hel ⊢
                omega
              have K4 := K3.trans k4
              refine ho4.allOwn (ok_en w0) o4.osl (fun i hi hi' => (ho3.dom (ok_en w0) i hi').2 (f4 i hi)) (by omega) (by omega) fun v5 G5 s5 k5 o5 f5 => ?_
              rw [pBin_add (by omega), pBin_add (by omega)]
              refine hL' _ _ (c - 1) (by omega) ⟨j + 1, G5, v5, by omega, k5.old K4 hG, fun i hi => ?_, ?_, hon4.frame (ok_str w0) (k5.at (fun i hi => (hon4.dom (ok_str w0) i hi).2) hFG), fun i hi hi' => ?_, by rw [hst]; simp; omega⟩
              · rcases f5 i hi with h | h | h
                · exact hG i h
                · exact none_old K3 (f4 i h)
                · exact none_old K4 h
              · rw [hft, ← List.append_assoc]; exact o5
              · rcases f5 i hi' with h | h | h
                · exact hFG i hi h
                · exact (hon3.dom (ok_str w0) i hi).2 (f4 i h)
                · exact (hon4.dom (ok_str w0) i hi).2 h
            · have hW1 : W nm = [] := by rw [← hW, lookW, if_neg (by rw [hld]; simp)]
              have hV1 : V nm = 0 := by rw [← hV, lookV, if_neg (by rw [hld]; simp)]
              rw [pBin_add (by omega)]
              refine hL' _ _ (c - 1) (by omega) ⟨j + 1, G, acc, by omega, K3, hG, ?_, hon3, hFG, by rw [hst, hV1]; simp⟩
              rw [hft, hW1, List.append_nil]; exact ho3
          · have e : j = L.length := by omega
            subst e
            rw [List.take_length] at ho
            have := hR acc G st ks0 ho hG
            rw [List.take_length]
            exact this
        intro b0 hb1 hb2
        have kb : Keeps σ (σ.put b0 ⟨t_impl_Entry, [], 0, (0, 0)⟩) := Keeps.put hb2
        have o0 : OAcc w0 t_impl_Entry 5 (OEn w0) (σ.put b0 ⟨t_impl_Entry, [], 0, (0, 0)⟩) [b0] (.slice (some ⟨b0, 0, none⟩) 0 0) [] := OAcc.new hb1
        have f0 : ∀ i, i ∈ [b0] → σ i = none := fun i hi => by rw [List.mem_singleton.1 hi]; exact hb2
        refine impl_marked (hm.mono kb.le fun _ _ => mono_mk kb.le) (hv.mono kb.le fun _ _ h => h) fun s1 k1 => ?_
        have K1 := kb.trans k1
        rw [pIf_b]
        refine ⟨fun hmk => ?_, fun hmk => ?_⟩
        · rw [pNil_s]
          refine PT.load (ha.mono K1.le) fun g3 hg3 => ?_
          rw [pNil_s]
          refine PT.load (hb.mono K1.le) fun g4 hg4 => ?_
          refine impl_changes (hv.mono K1.le fun _ _ h => h) (by omega) hg3 hg4 fun v1 G1 s2 k2 o1 f1 => ?_
          exact LOOP s2 v1 G1 _ (by rw [if_pos hmk]) (K1.trans k2) o1 fun i hi => none_old K1 (f1 i hi)
        · exact LOOP s1 _ [b0] [] (by rw [if_neg (by rw [hmk]; simp)]) K1 (o0.frame (ok_en w0) (k1.but_at fun i hi => (o0.dom (ok_en w0) i hi).2)) f0
end
end Go.Proofs.YtkbhjejalkbogaaGreat

/- What a trail leads to, by the reference's hand: a row of its own that holds the entries and the looks. -/
set_option linter.unusedVariables false
set_option linter.unusedSimpArgs false
set_option maxRecDepth 20000
namespace Go.Proofs.YtkbhjejalkbogaaGreat
open Go Go.Av

/-- A view without some rows. -/
def delL (σ : Vw) (F : List Nat) : Vw := fun i => if i ∈ F then none else σ i
theorem delL_none {σ : Vw} {F : List Nat} {i : Nat} (h : i ∈ F) : delL σ F i = none := by simp [delL, h]
theorem delL_out {σ : Vw} {F : List Nat} {i : Nat} (h : i ∉ F) : delL σ F i = σ i := by simp [delL, h]
theorem delL_keeps {σ : Vw} {F : List Nat} : Keeps (delL σ F) σ := fun i r h => by
  by_cases hi : i ∈ F
  · rw [delL_none hi] at h; cases h
  · rw [delL_out hi] at h; exact h
theorem keeps_delL {σ s : Vw} {F : List Nat} (k : Keeps σ s) (hF : ∀ i, i ∈ F → σ i = none) : Keeps σ (delL s F) := fun i r h => by
  by_cases hi : i ∈ F
  · rw [hF i hi] at h; cases h
  · rw [delL_out hi]; exact k i r h

/-- What a call leaves, with the rows that were kept from it. -/
def mergeL (σ : Vw) (F : List Nat) (σ' : Vw) : Vw := fun i => if i ∈ F then σ i else σ' i
theorem merge_in {σ σ' : Vw} {F : List Nat} {i : Nat} (h : i ∈ F) : mergeL σ F σ' i = σ i := by simp [mergeL, h]
theorem merge_out {σ σ' : Vw} {F : List Nat} {i : Nat} (h : i ∉ F) : mergeL σ F σ' i = σ' i := by simp [mergeL, h]
theorem del_merge {σ σ' : Vw} {F : List Nat} (h : ∀ i, i ∈ F → σ' i = none) : delL (mergeL σ F σ') F = σ' := by
  funext i
  by_cases hi : i ∈ F
  · rw [delL_none hi, h i hi]
  · rw [delL_out hi, merge_out hi]
theorem AC.hideL {P : Program} {w0 : World} {f : FuncId} {args : List Value} {σ : Vw} {R R' : Value → Vw → Prop} {F : List Nat} (h : AC P w0 f args (delL σ F) R) (hR : ∀ v σ', (∀ i, i ∈ F → σ i ≠ none → σ' i = none) → R v σ' → R' v (mergeL σ F σ')) : AC P w0 f args σ R' := by
  refine ⟨h.1, fun w hw => ?_⟩
  have hs : Sat w0 (delL σ F) w := ⟨hw.bel, fun i r' hi => hw.row i r' (delL_keeps i r' hi)⟩
  refine (h.2 w hs).mono ?_
  rintro e w' ⟨v, σ', he, hRv, ha⟩
  have hn : ∀ i, i ∈ F → σ i ≠ none → σ' i = none := fun i hi hne => by
    cases hc : σ' i with
    | none => rfl
    | some r' =>
      rcases ha.dom i r' hc with h1 | h1
      · exact absurd (delL_none hi) h1
      · cases hs' : σ i with
        | none => exact absurd hs' hne
        | some r => have := hw.lt hs'; omega
  refine ⟨v, mergeL σ F σ', he, hR v σ' hn hRv, ⟨⟨ha.sat.bel, fun i r' hi => ?_⟩, ha.size, fun i hi hni => ?_, fun i r' hi => ?_⟩⟩
  · by_cases e : i ∈ F
    · rw [merge_in e] at hi
      obtain ⟨h1, cur, h2, h3⟩ := hw.row i _ hi
      exact ⟨h1, cur, (ha.fr i (hw.lt hi) (delL_none e)).trans h2, h3⟩
    · rw [merge_out e] at hi
      exact ha.sat.row i r' hi
  · refine ha.fr i hi ?_
    by_cases e : i ∈ F
    · exact delL_none e
    · rw [delL_out e]; exact hni
  · by_cases e : i ∈ F
    · rw [merge_in e] at hi; exact .inl (by rw [hi]; simp)
    · rw [merge_out e] at hi
      rcases ha.dom i r' hi with h1 | h1
      · exact .inl (by rw [delL_out e] at h1; exact h1)
      · exact .inr h1

section
variable {w0 : World} {σ : Vw}

/-- A call that does not see some rows. -/
theorem hide_rows {f : FuncId} {args : List Value} {F : List Nat} (hF : ∀ i, i ∈ F → σ i ≠ none) {R R' : Value → Vw → Prop} (h : AC Tryz.prog w0 f args (delL σ F) R) (hk : ∀ v s, R v s → Keeps (delL σ F) s) (hR : ∀ v s, Keeps σ s → R v (delL s F) → R' v s) : AC Tryz.prog w0 f args σ R' := by
  refine AC.hideL h fun v σ' hn hRv => ?_
  have hd : delL (mergeL σ F σ') F = σ' := del_merge fun i hi => hn i hi (hF i hi)
  refine hR v _ (fun i r hi => ?_) (by rw [hd]; exact hRv)
  by_cases e : i ∈ F
  · rw [merge_in e]; exact hi
  · rw [merge_out e]; exact hk v σ' hRv i r (by rw [delL_out e]; exact hi)
theorem spec_l12KidB {n : Nat} {es : List Value} {x : Tr} {nm : ByteArray} {F : List Nat} (hF : ∀ i, i ∈ F → σ i ≠ none) (h : RT (n + 1) (Av.get w0 (delL σ F)) es x) (hx : fineT (n + 1) x) (hs : nm.size ≤ 9223372036854775807) {R : Value → Vw → Prop}
    (hR : ∀ es' s, Keeps σ s → RT (n + 1) (Av.get w0 (delL s F)) es' ((kidT x nm).getD zeroT) → R (.tuple ⟨[.agg ⟨es'⟩, .bool (kidT x nm).isSome]⟩) s) : AC Tryz.prog w0 n_spec_l12Kid [.agg ⟨es⟩, .string nm] σ R :=
  hide_rows hF (R := fun v s => Keeps (delL σ F) s ∧ ∃ es', v = .tuple ⟨[.agg ⟨es'⟩, .bool (kidT x nm).isSome]⟩ ∧ RT (n + 1) (Av.get w0 s) es' ((kidT x nm).getD zeroT)) (spec_l12Kid h hx hs fun es' s k r => ⟨k, es', rfl, r⟩) (fun v s h => h.1) fun v s k ⟨_, es', e, r⟩ => by
    subst e; exact hR es' s k r

abbrev ptrL (b : Nat) : Value := .pointer (some (Addr.mk b 0 none))
/-- The row of what was found. -/
def CL (w0 : World) (σ : Vw) (b : Nat) (G : List Nat) (lv ov : Value) (xs : List En) (k : Nat) : Prop :=
  w0.heap.size ≤ b ∧ b ∉ G ∧ lv.oneCell' = true ∧ (∃ ety, σ b = some ⟨ety, [lv, ov, .int .i64 (k : Nat)], 3, (0, 0)⟩) ∧ OAcc w0 t_impl_Entry 5 (OEn w0) σ G ov xs
theorem CL.keep {b : Nat} {G : List Nat} {lv ov : Value} {xs : List En} {k : Nat} {s : Vw} (h : CL w0 σ b G lv ov xs k) (ks : Keeps σ s) : CL w0 s b G lv ov xs k := by
  obtain ⟨h1, h2, h3, ⟨ety, h4⟩, h5⟩ := h
  exact ⟨h1, h2, h3, ⟨ety, ks _ _ h4⟩, h5.frame (ok_en w0) (ks.but_at fun i hi => (h5.dom (ok_en w0) i hi).2)⟩
theorem CL.dom {b : Nat} {G : List Nat} {lv ov : Value} {xs : List En} {k : Nat} (h : CL w0 σ b G lv ov xs k) : ∀ i, i ∈ b :: G → σ i ≠ none := fun i hi => by
  obtain ⟨h1, h2, h3, ⟨ety, h4⟩, h5⟩ := h
  rcases List.mem_cons.1 hi with e | hi
  · rw [e, h4]; simp
  · exact (h5.dom (ok_en w0) i hi).2
theorem CL.ld {b : Nat} {G : List Nat} {lv ov : Value} {xs : List En} {k : Nat} (h : CL w0 σ b G lv ov xs k) (o : Nat) (y : Value) (ho : [lv, ov, .int .i64 (k : Nat)][o]? = some y) {K : Value → (Nat → Value) → Prop} (hK : ∀ (q : Value) (g : Nat → Value), g 0 = y → K q g) :
    pNil (ptrL b) (pField o (ptrL b) fun q => pLoad w0 1 q σ (K q)) := by
  obtain ⟨h1, h2, h3, ⟨ety, h4⟩, h5⟩ := h
  rw [pNil_s, pField_s]
  refine ⟨_, fun _ => y, rfl, fun j hj => ?_, hK _ _ rfl⟩
  have e : j = 0 := by omega
  subst e
  rw [add_add, Nat.add_zero, addr_add, get_row h1 h4, Nat.zero_add]
  exact ho
/-- The looks are set. -/
theorem CL.st2 {b : Nat} {G : List Nat} {lv ov : Value} {xs : List En} {k k' : Nat} (h : CL w0 σ b G lv ov xs k) {K : Vw → Prop} (hK : ∀ s, KeepsBut (b :: G) σ s → CL w0 s b G lv ov xs k' → K s) :
    pNil (ptrL b) (pField 2 (ptrL b) fun q => pVal false 1 (.int .i64 (k' : Nat)) (pStore q [.int .i64 (k' : Nat)] σ K)) := by
  obtain ⟨h1, h2, h3, ⟨ety, h4⟩, h5⟩ := h
  rw [pNil_s]
  refine field_store (A := []) (C := []) (c := [lv, ov, .int .i64 (k : Nat)]) h4 rfl rfl (by simp) rfl ?_
  simp only [List.nil_append, List.append_nil, List.set_cons_succ, List.set_cons_zero]
  refine hK _ (fun i r hi hF => ?_) ⟨h1, h2, h3, ⟨ety, put_at⟩, h5.frame (ok_en w0) fun i hi => put_ne fun e => h2 (e ▸ hi)⟩
  have hib : i ≠ b := fun e => hF (by rw [e]; exact List.mem_cons_self)
  rw [put_ne hib]; exact hi
/-- The entries are set. -/
theorem CL.st1 {b ety : Nat} {G' : List Nat} {lv ov ov' : Value} {xs' : List En} {k : Nat} (h1 : w0.heap.size ≤ b) (h2 : b ∉ G') (h3 : lv.oneCell' = true) (h4 : σ b = some ⟨ety, [lv, ov, .int .i64 (k : Nat)], 3, (0, 0)⟩) (h5 : OAcc w0 t_impl_Entry 5 (OEn w0) σ G' ov' xs') {K : Vw → Prop}
    (hK : ∀ s, KeepsBut [b] σ s → CL w0 s b G' lv ov' xs' k → K s) :
    pNil (ptrL b) (pField 1 (ptrL b) fun q => pVal false 1 ov' (pStore q [ov'] σ K)) := by
  rw [pNil_s]
  refine field_store (A := []) (C := []) (c := [lv, ov, .int .i64 (k : Nat)]) h4 rfl rfl (by simp) (OSl.one' h5.osl) ?_
  simp only [List.nil_append, List.append_nil, List.set_cons_succ, List.set_cons_zero]
  refine hK _ (fun i r hi hF => ?_) ⟨h1, h2, h3, ⟨ety, put_at⟩, h5.frame (ok_en w0) fun i hi => put_ne fun e => h2 (e ▸ hi)⟩
  have hib : i ≠ b := fun e => hF (by rw [e]; exact List.mem_cons_self)
  rw [put_ne hib]; exact hi
/-- Entries of our own are put behind. -/
theorem CL.push {b : Nat} {G G2 : List Nat} {lv ov v2 : Value} {xs ys : List En} {k : Nat} (h : CL w0 σ b G lv ov xs k) (o2 : OSl w0 5 (OEn w0) σ G2 v2 ys) (hd : ∀ i, i ∈ G2 → i ∉ b :: G) (hl : xs.length + ys.length ≤ 10000000) {K : Vw → Prop}
    (hK : ∀ ov' G' s, KeepsBut (b :: G) σ s → CL w0 s b G' lv ov' (xs ++ ys) k → (∀ i, i ∈ G' → i ∈ G ∨ i ∈ G2 ∨ σ i = none) → K s) :
    pAppendS w0 t_impl_Entry 5 64 ov v2 σ (fun v12 s13 => pNil (ptrL b) (pField 1 (ptrL b) fun q => pVal false 1 v12 (pStore q [v12] s13 K))) := by
  obtain ⟨h1, h2, h3, ⟨ety, h4⟩, h5⟩ := h
  refine h5.allOwn (ok_en w0) o2 (fun i hi hi' => hd i hi (List.mem_cons_of_mem _ hi')) (by omega) (by omega) fun v' G' s kk o' f' => ?_
  have hb : b ∉ G' := fun hb => by
    rcases f' b hb with e | e | e
    · exact h2 e
    · exact hd b e List.mem_cons_self
    · rw [h4] at e; cases e
  refine CL.st1 h1 hb h3 (kk b _ h4 h2) o' fun s2 k2 c2 => ?_
  refine hK _ _ s2 (fun i r hi hF => ?_) c2 f'
  exact k2 i r (kk i r hi fun e => hF (List.mem_cons_of_mem _ e)) fun e => hF (by rw [List.mem_singleton.1 e]; exact List.mem_cons_self)

theorem spec_leads {b : Nat} {G : List Nat} {lv ov v' : Value} {xs : List En} {k : Nat} {ms : List Mk} {p : List ByteArray} (h : CL w0 σ b G lv ov xs k) (hm : RSl 2 RMk (Av.get w0 σ) lv ms) (h' : RSl 1 RS (Av.get w0 σ) v' p) {R : Value → Vw → Prop} (hR : R (.bool (leadsB ms p)) σ) : AC Tryz.prog w0 n_p_spec_l12Look_leads [ptrL b, v'] σ R := by
  refine ac_p_spec_l12Look_leads ?_
  unfold vc_p_spec_l12Look_leads
  have hl := hm.le
  refine loop_rule (m := ms.length) (fun m l t => ∃ j, t = σ ∧ m + j = ms.length ∧ leadsB (ms.take j) p = false ∧ l = [ptrL b, v', .bool false, .int .i64 (j : Nat)]) ?_ ⟨0, rfl, by omega, rfl, rfl⟩
  rintro m l t L ⟨j, rfl, hmj, ht, rfl⟩ hL
  simp only [vget, List.getD_cons_zero, List.getD_cons_succ]
  refine h.ld 0 lv rfl fun q g hg => ?_
  rw [hg, hm.len, pBin_lt, pIf_d]
  refine ⟨fun hj => ?_, fun hj => ?_⟩
  · have hx := List.getElem?_eq_getElem (show j < ms.length by omega)
    generalize ms[j]'(by omega) = x at hx
    refine h.ld 0 lv rfl fun q g hg => ?_
    rw [hg]
    refine RSl.atf hm hx 0 (by omega) fun es g1 r1 q1 => ?_
    obtain ⟨u, rfl, ru⟩ := r1
    simp only [List.getElem?_cons_zero, Option.some.injEq] at q1
    rw [← q1]
    refine spec_Within ru h' ?_
    rw [pIf_b]
    refine ⟨fun hw => ?_, fun hw => ?_⟩
    · rw [leads_hit hx hw] at hR; exact hR
    · rw [pBin_add (by omega)]
      exact hL _ _ (m - 1) (by omega) ⟨j + 1, rfl, by omega, by rw [leads_take hx, ht, hw]; rfl, by simp⟩
  · have e : j = ms.length := by omega
    subst e
    rw [List.take_length] at ht
    rw [ht] at hR; exact hR

/-- The names one by one. -/
def VSL (w0 : World) (pb v x0 x1 x2 x3 x4 y0 y1 y2 y3 y4 : Value) (s : Vw) (R : Value → Vw → Prop) : Prop :=
  AC Tryz.prog w0 n_spec_l12Names ([.agg (⟨[x0, x1, x2, x3, x4]⟩), .agg (⟨[y0, y1, y2, y3, y4]⟩)]) s (fun v86 s87 => pLoop (fun l88 K89 s90 => pLen (vget l88 2) (fun v91 => pBin Tryz.prog 3 .lss (vget l88 3) v91 (fun v92 => pIf v92 (pIndexAddr 1 (vget l88 2) (vget l88 3) (fun v93 => pLoad w0 1 v93 s90 (fun g94 => AC Tryz.prog w0 n_spec_l3Path [vget l88 1, g94 0] s90 (fun v95 s96 => AC Tryz.prog w0 n_p_spec_l12Look_leads [vget l88 0, v95] s96 (fun v97 s98 => pIf v97 (pIndexAddr 1 (vget l88 2) (vget l88 3) (fun v99 => pLoad w0 1 v99 s98 (fun g100 => AC Tryz.prog w0 n_spec_l12Kid ([.agg (⟨[vget l88 4, vget l88 5, vget l88 6, vget l88 7, vget l88 8]⟩), g100 0]) s98 (fun v101 s102 => pExtract v101 0 (fun v103 => pExtract v101 1 (fun v104 => pVal true 5 v103 (pIndexAddr 1 (vget l88 2) (vget l88 3) (fun v105 => pLoad w0 1 v105 s102 (fun g106 => AC Tryz.prog w0 n_spec_l12Kid ([.agg (⟨[vget l88 9, vget l88 10, vget l88 11, vget l88 12, vget l88 13]⟩), g106 0]) s102 (fun v107 s108 => pExtract v107 0 (fun v109 => pExtract v107 1 (fun v110 => pVal true 5 v109 (AC Tryz.prog w0 n_p_spec_l12Look_at ([vget l88 0, v95, .agg (⟨[cellOf v103 0, cellOf v103 1, cellOf v103 2, cellOf v103 3, cellOf v103 4]⟩), v104, .agg (⟨[cellOf v109 0, cellOf v109 1, cellOf v109 2, cellOf v109 3, cellOf v109 4]⟩), v110]) s108 (fun v111 s112 => pBin Tryz.prog 3 .add (vget l88 3) (.int .i64 1) (fun v113 => K89 AX.normal [vget l88 0, vget l88 1, vget l88 2, v113, vget l88 4, vget l88 5, vget l88 6, vget l88 7, vget l88 8, vget l88 9, vget l88 10, vget l88 11, vget l88 12, vget l88 13] s112))))))))))))))) (pBin Tryz.prog 3 .add (vget l88 3) (.int .i64 1) (fun v114 => K89 AX.normal [vget l88 0, vget l88 1, vget l88 2, v114, vget l88 4, vget l88 5, vget l88 6, vget l88 7, vget l88 8, vget l88 9, vget l88 10, vget l88 11, vget l88 12, vget l88 13] s98))))))) (K89 (AX.exit 1) [vget l88 0, vget l88 1, vget l88 2, vget l88 3, vget l88 4, vget l88 5, vget l88 6, vget l88 7, vget l88 8, vget l88 9, vget l88 10, vget l88 11, vget l88 12, vget l88 13] s90)))) [pb, v, v86, .int .i64 0, x0, x1, x2, x3, x4, y0, y1, y2, y3, y4] s87 (fun x115 l116 s117 => match x115 with | .normal => R (.tuple ⟨[]⟩) s117 | .ret => R (.tuple ⟨[]⟩) s117 | .exit i118 => (match Nat.beq i118 1 with | true => R (.tuple ⟨[]⟩) s117 | false => False)))

set_option maxHeartbeats 8000000 in
theorem spec_look : ∀ (n : Nat) {σ0 σ : Vw} {b : Nat} {G : List Nat} {v lv ov : Value} {es es' : List Value} {ps : List ByteArray} {ms : List Mk} {a c : Option Tr} {xs : List En} {k : Nat} {R : Value → Vw → Prop}, RSl 1 RS (Av.get w0 σ0) v ps → RSl 2 RMk (Av.get w0 σ0) lv ms → RT n (Av.get w0 σ0) es (a.getD zeroT) → RT n (Av.get w0 σ0) es' (c.getD zeroT) → fineO n a → fineO n c →
    ¬ (a = none ∧ c = none) → ps.length + sumS ps + 6 * n ≤ 1000000 → Keeps σ0 σ → (∀ i, i ∈ b :: G → σ0 i = none) → CL w0 σ b G lv ov xs k → xs.length + (lookE n ms ps a c).length ≤ 1000000 → k + lookN n ms ps a c ≤ 1000000 →
    (∀ ov' G' s, Keeps σ0 s → (∀ i, i ∈ b :: G' → σ0 i = none) → CL w0 s b G' lv ov' (xs ++ lookE n ms ps a c) (k + lookN n ms ps a c) → R (.tuple ⟨[]⟩) s) →
    AC Tryz.prog w0 n_p_spec_l12Look_at [ptrL b, v, .agg ⟨es⟩, .bool a.isSome, .agg ⟨es'⟩, .bool c.isSome] σ R := by
  intro n
  induction n with
  | zero => intro σ0 σ b G v lv ov es es' ps ms a c xs k R _ _ h; exact h.elim
  | succ n ih =>
    intro σ0 σ b G v lv ov es es' ps ms a c xs k R hv hm h h' hfa hfb hne hps k0 hF hcl hEl hNl hR
    have h0 := h
    have h0' := h'
    have hx := fine_getD hfa
    have hy := fine_getD hfb
    obtain ⟨u, w, rfl, _, _, _, _, hp⟩ := h.cells
    obtain ⟨u', w', rfl, _, _, _, _, hp'⟩ := h'.cells
    refine ac_p_spec_l12Look_at ?_
    unfold vc_p_spec_l12Look_at
    rw [hp, hp']
    simp only [cellOf_agg, List.getD_cons_zero, List.getD_cons_succ]
    have hl1 := fine_len hx
    have hl2 := fine_len hy
    -- entries of a list that a call makes
    have fin : ∀ {s : Vw} {ov1 v2 : Value} {G1 G2 : List Nat} {ys : List En} {k1 : Nat}, Keeps σ0 s → (∀ i, i ∈ b :: G1 → σ0 i = none) → CL w0 s b G1 lv ov1 xs k1 → OAcc w0 t_impl_Entry 5 (OEn w0) s G2 v2 ys → (∀ i, i ∈ G2 → σ0 i = none ∧ i ∉ b :: G1) → xs.length + ys.length ≤ 1000000 →
        ∀ {K : Vw → Prop}, (∀ ov' G' s', Keeps σ0 s' → (∀ i, i ∈ b :: G' → σ0 i = none) → CL w0 s' b G' lv ov' (xs ++ ys) k1 → K s') →
        pAppendS w0 t_impl_Entry 5 64 ov1 v2 s (fun v12 s13 => pNil (ptrL b) (pField 1 (ptrL b) fun q => pVal false 1 v12 (pStore q [v12] s13 K))) := by
      intro s ov1 v2 G1 G2 ys k1 ks hF1 c1 o2 hd hl K hK
      refine c1.push o2.osl (fun i hi => (hd i hi).2) (by omega) fun ov' G' s' kk c' f' => ?_
      refine hK ov' G' s' (kk.old ks hF1) (fun i hi => ?_) c'
      rcases List.mem_cons.1 hi with e | hi
      · exact hF1 i (e ▸ List.mem_cons_self)
      · rcases f' i hi with e | e | e
        · exact hF1 i (List.mem_cons_of_mem _ e)
        · exact (hd i e).1
        · exact none_old ks e
    have fresh : ∀ {s s' : Vw} {G1 G2 : List Nat}, Keeps σ0 s → (∀ i, i ∈ b :: G1 → s i ≠ none) → (∀ i, i ∈ G2 → s i = none) → ∀ i, i ∈ G2 → σ0 i = none ∧ i ∉ b :: G1 := fun {s s' G1 G2} ks hd hf i hi => ⟨none_old ks (hf i hi), fun h => hd i h (hf i hi)⟩
    -- all of b is new
    have uzero : ∀ y, c = some y → ∀ {s : Vw} {K : Value → Vw → Prop}, Keeps σ0 s → (∀ s', Keeps s s' → K (.int .i64 (cntT (n + 1) y + 1 : Nat)) s') → AC Tryz.prog w0 n_spec_l12Union ([.agg (⟨[.bool (isDir (c.getD zeroT)), .int .i64 (modeOf (c.getD zeroT)), .string (dataOf (c.getD zeroT)), u', w']⟩), .agg (⟨[.bool false, .int .i64 0, .string ({ data := #[] }), .slice none 0 0, .slice none 0 0]⟩)]) s K := by
      intro y hcy s K ks hK
      refine spec_Union (n + 1) (mono_rt _ _ _ _ _ ks.le h0') (RT_zero n _) hy (fine_zero n) fun s' k' => ?_
      have := unS_eq (n + 1) c none (by rw [hcy]; simp) hfb (fun z hz => by cases hz)
      simp only [Option.getD_none] at this
      rw [this, hcy]
      exact hK s' k'
    have eb : ∀ (p q : Bool) (K : Value → Prop), pBin Tryz.prog 4 .neq (.bool p) (.bool q) K ↔ K (.bool !(p == q)) := fun p q K => pBin_b (by kernel_rfl) rfl
    rw [pUn_not, pIf_b]
    cases a with
    | none =>
      refine ⟨fun _ => ?_, fun h => by cases h⟩
      cases c with
      | none => exact absurd ⟨rfl, rfl⟩ hne
      | some y =>
        have e1 : lookE (n + 1) ms ps none (some y) = linT fNew (n + 1) ps y := rfl
        have e2 : lookN (n + 1) ms ps none (some y) = cntT (n + 1) y + 1 := rfl
        rw [e1] at hEl hR
        rw [e2] at hNl hR
        refine hcl.ld 2 _ rfl fun q g hg => ?_
        rw [hg]
        refine uzero y rfl k0 fun s1 k1 => ⟨k1.stay, ?_⟩
        rw [pBin_add (by omega), show ((k : Nat) : Int) + ((cntT (n + 1) y + 1 : Nat) : Int) = ((k + (cntT (n + 1) y + 1) : Nat) : Int) by omega]
        refine (hcl.keep k1).st2 fun s2 k2 c2 => ?_
        have K2 : Keeps σ0 s2 := k2.old (k0.trans k1) hF
        refine c2.ld 1 _ rfl fun q g hg => ?_
        rw [hg]
        refine spec_new (n + 1) (hv.mono K2.le fun _ _ h => h) (mono_rt _ _ _ _ _ K2.le h0') hy.1 hy.2.1 hps fun v3 G3 s3 k3 o3 f3 => ⟨k3.stay, ?_⟩
        exact fin (K2.trans k3) hF (c2.keep k3) o3 (fresh (s' := s3) K2 c2.dom f3) hEl fun ov' G' s' a1 a2 a3 => hR ov' G' s' a1 a2 a3
    | some x =>
      refine ⟨fun h => (by cases h), fun _ => ?_⟩
      rw [pUn_not, pIf_b]
      cases c with
      | none =>
        refine ⟨fun _ => ?_, fun h => by cases h⟩
        have e1 : lookE (n + 1) ms ps (some x) none = [goneE ps] := rfl
        have e2 : lookN (n + 1) ms ps (some x) none = 1 := rfl
        rw [e1] at hEl hR
        rw [e2] at hNl hR
        refine hcl.ld 2 _ rfl fun q g hg => ?_
        rw [hg, pBin_add (by omega), show ((k : Nat) : Int) + 1 = ((k + 1 : Nat) : Int) by omega]
        refine hcl.st2 fun s2 k2 c2 => ?_
        have K2 : Keeps σ0 s2 := k2.old k0 hF
        refine c2.ld 1 _ rfl fun q g hg => ?_
        rw [hg]
        refine spec_gone (hv.mono K2.le fun _ _ h => h) (by omega) fun v3 G3 s3 k3 o3 f3 => ⟨k3.stay, ?_⟩
        exact fin (K2.trans k3) hF (c2.keep k3) o3 (fresh (s' := s3) K2 c2.dom f3) hEl fun ov' G' s' a1 a2 a3 => hR ov' G' s' a1 a2 a3
      | some y =>
        refine ⟨fun h => (by cases h), fun _ => ?_⟩
        rw [eb, pIf_b]
        refine ⟨fun hd => ?_, fun hd => ?_⟩
        · have hd' : ¬ isDir x = isDir y := by simpa using hd
          have e1 : lookE (n + 1) ms ps (some x) (some y) = [goneE ps] ++ linT fNew (n + 1) ps y := by simp only [lookE]; rw [if_neg hd']; rfl
          have e2 : lookN (n + 1) ms ps (some x) (some y) = cntT (n + 1) y + 1 := by simp only [lookN]; rw [if_neg hd']
          rw [e1] at hEl hR
          rw [e2] at hNl hR
          rw [List.length_append] at hEl
          refine hcl.ld 2 _ rfl fun q g hg => ?_
          rw [hg]
          refine uzero y rfl k0 fun s1 k1 => ⟨k1.stay, ?_⟩
          rw [pBin_add (by omega), show ((k : Nat) : Int) + ((cntT (n + 1) y + 1 : Nat) : Int) = ((k + (cntT (n + 1) y + 1) : Nat) : Int) by omega]
          refine (hcl.keep k1).st2 fun s2 k2 c2 => ?_
          have K2 : Keeps σ0 s2 := k2.old (k0.trans k1) hF
          refine c2.ld 1 _ rfl fun q g hg => ?_
          rw [hg]
          refine spec_gone (hv.mono K2.le fun _ _ h => h) (by omega) fun v3 G3 s3 k3 o3 f3 => ⟨k3.stay, ?_⟩
          have hd3 := fresh (s' := s3) K2 c2.dom f3
          have K3 := K2.trans k3
          obtain ⟨q1, q2, q3, ⟨ety, q4⟩, q5⟩ := c2.keep k3
          refine q5.allOwn (ok_en w0) o3.osl (fun i hi hi' => (hd3 i hi).2 (List.mem_cons_of_mem _ hi')) (by omega) (by omega) fun v4 G4 s4 k4 o4 f4 => ?_
          have hb4 : b ∉ G4 := fun hb => by
            rcases f4 b hb with e | e | e
            · exact q2 e
            · exact (hd3 b e).2 List.mem_cons_self
            · rw [q4] at e; cases e
          have hF4 : ∀ i, i ∈ G4 → σ0 i = none := fun i hi => by
            rcases f4 i hi with e | e | e
            · exact hF i (List.mem_cons_of_mem _ e)
            · exact (hd3 i e).1
            · exact none_old K3 e
          have K4 : Keeps σ0 s4 := k4.old K3 fun i hi => hF i (List.mem_cons_of_mem _ hi)
          have r4 := k4 b _ q4 q2
          refine spec_new (n + 1) (hv.mono K4.le fun _ _ h => h) (mono_rt _ _ _ _ _ K4.le h0') hy.1 hy.2.1 hps fun v5 G5 s5 k5 o5 f5 => ?_
          have o45 := o4.frame (ok_en w0) (k5.but_at fun i hi => (o4.dom (ok_en w0) i hi).2)
          refine o45.allOwn (ok_en w0) o5.osl (fun i hi hi' => (o4.dom (ok_en w0) i hi').2 (f5 i hi)) (by rw [List.length_append]; simp only [Option.getD_some]; omega) (by omega) fun v6 G6 s6 k6 o6 f6 => ?_
          have hb6 : b ∉ G6 := fun hb => by
            rcases f6 b hb with e | e | e
            · exact hb4 e
            · rw [f5 b e] at r4; cases r4
            · rw [k5 b _ r4] at e; cases e
          have K5 := K4.trans k5
          have K6 : Keeps σ0 s6 := k6.old K5 hF4
          refine CL.st1 q1 hb6 q3 (k6 b _ (k5 b _ r4) hb4) o6 fun s7 k7 c7 => ?_
          rw [List.append_assoc] at c7
          refine hR _ _ s7 (k7.old K6 fun i hi => by rw [List.mem_singleton.1 hi]; exact hF b List.mem_cons_self) (fun i hi => ?_) c7
          rcases List.mem_cons.1 hi with e | hi
          · exact hF i (e ▸ List.mem_cons_self)
          · rcases f6 i hi with e | e | e
            · exact hF4 i e
            · exact none_old K4 (f5 i e)
            · exact none_old K5 e
        have hd' : isDir x = isDir y := by simpa using hd
        refine hcl.ld 0 _ rfl fun q g hg => ?_
        rw [hg]
        refine spec_l11Under (hm.mono k0.le fun _ _ => mono_mk k0.le) (hv.mono k0.le fun _ _ h => h) ?_
        rw [pIf_b]
        refine ⟨fun hu => ?_, fun hu => ?_⟩
        · have e1 : lookE (n + 1) ms ps (some x) (some y) = walkE (n + 1) ps (some x) (some y) := by simp only [lookE]; rw [if_pos hd', if_pos hu]
          have e2 : lookN (n + 1) ms ps (some x) (some y) = unT (n + 1) (some x) (some y) := by simp only [lookN]; rw [if_pos hd', if_pos hu]
          rw [e1] at hEl hR
          rw [e2] at hNl hR
          refine hcl.ld 2 _ rfl fun q g hg => ?_
          rw [hg]
          refine spec_Union (n + 1) (mono_rt _ _ _ _ _ k0.le h0) (mono_rt _ _ _ _ _ k0.le h0') hx hy fun s1 k1 => ⟨k1.stay, ?_⟩
          have hun := unS_eq (n + 1) (some x) (some y) (by simp) hfa hfb
          rw [hun, pBin_add (by omega), show ((k : Nat) : Int) + ((unT (n + 1) (some x) (some y) : Nat) : Int) = ((k + unT (n + 1) (some x) (some y) : Nat) : Int) by omega]
          refine (hcl.keep k1).st2 fun s2 k2 c2 => ?_
          have K2 : Keeps σ0 s2 := k2.old (k0.trans k1) hF
          refine c2.ld 1 _ rfl fun q g hg => ?_
          rw [hg]
          refine spec_walk (n + 1) (hv.mono K2.le fun _ _ h => h) (mono_rt _ _ _ _ _ K2.le h0) (mono_rt _ _ _ _ _ K2.le h0') hx.1 hy.1 hx.2.1 hy.2.1 hps fun v3 G3 s3 k3 o3 f3 => ⟨k3.stay, ?_⟩
          exact fin (K2.trans k3) hF (c2.keep k3) o3 (fresh (s' := s3) K2 c2.dom f3) hEl fun ov' G' s' a1 a2 a3 => hR ov' G' s' a1 a2 a3
        obtain ⟨eE, eN⟩ := lookE_names (ms := ms) (ps := ps) hx hy hd' hu
        simp only [Option.getD_some] at eE eN
        rw [eE] at hEl hR
        rw [eN] at hNl hR
        have hLl := names_both hx hy
        have hLm : ∀ z, z ∈ namesU (namesOf x ++ namesOf y) → z ∈ namesOf x ∨ z ∈ namesOf y := fun z hz => by rw [namesU_mem, List.mem_append] at hz; exact hz
        clear eE eN
        -- the names one by one
        have LOOP : ∀ (s : Vw) (ov1 : Value) (G1 : List Nat) (pe : List En), pe = (if markedB ms ps = true then partE ps x y else []) → Keeps σ0 s → (∀ i, i ∈ b :: G1 → σ0 i = none) → CL w0 s b G1 lv ov1 (xs ++ pe) (k + 1) →
            VSL w0 (ptrL b) v (.bool (isDir x)) (.int .i64 (modeOf x)) (.string (dataOf x)) u w (.bool (isDir y)) (.int .i64 (modeOf y)) (.string (dataOf y)) u' w' s R := by
          intro s ov1 G1 pe hpe ks1 hF1 c1
          rw [← hpe] at hR hEl
          unfold VSL
          refine spec_l12Names (mono_rt _ _ _ _ _ ks1.le h0) (mono_rt _ _ _ _ _ ks1.le h0') (fine_asc hx) (fine_asc hy) (by omega) fun nv F s2 k2 on fn => ?_
          simp only [Option.getD_some] at on
          have c2 := c1.keep k2
          have hFd : ∀ i, i ∈ F → i ∉ b :: G1 := fun i hi h => c1.dom i h (fn i hi)
          have fn0 : ∀ i, i ∈ F → σ0 i = none := fun i hi => none_old ks1 (fn i hi)
          clear hLl
          generalize namesU (namesOf x ++ namesOf y) = L at *
          generalize hW : lookW n ms ps x y = W at hR hEl
          generalize hV : lookV n ms ps x y = V at hR hNl
          have hll := (on.rel (ok_str w0)).le
          refine loop_rule (m := L.length) (fun cc l st => ∃ (j : Nat) (G2 : List Nat) (ov2 : Value), cc + j = L.length ∧ Keeps σ0 st ∧ (∀ i, i ∈ b :: G2 → σ0 i = none) ∧ CL w0 st b G2 lv ov2 (xs ++ (pe ++ ((L.take j).map W).flatten)) (k + (1 + sumBy V (L.take j))) ∧
              OStrs w0 st F nv L ∧ (∀ i, i ∈ F → i ∉ b :: G2) ∧ l = [ptrL b, v, nv, .int .i64 (j : Nat), .bool (isDir x), .int .i64 (modeOf x), .string (dataOf x), u, w, .bool (isDir y), .int .i64 (modeOf y), .string (dataOf y), u', w']) ?_
            ⟨0, G1, ov1, by omega, ks1.trans k2, hF1, by simpa [sumBy] using c2, on, hFd, rfl⟩
          rintro cc l st L' ⟨j, G2, ov2, hcj, ks, hF2, c3, hon, hFG, rfl⟩ hL'
          simp only [vget, List.getD_cons_zero, List.getD_cons_succ]
          have onr := hon.rel (ok_str w0)
          rw [onr.len, pBin_lt, pIf_d]
          refine ⟨fun hj => ?_, fun hj => ?_⟩
          · have hnm := List.getElem?_eq_getElem (show j < L.length by omega)
            generalize L[j]'(by omega) = nm at hnm
            have hmem := hLm nm (List.mem_of_getElem? hnm)
            have hn0 : n ≠ 0 := by
              rcases hmem with hm | hm
              · exact kid_level hx hm
              · exact kid_level hy hm
            have hsz : nm.size ≤ 5 := by
              rcases hmem with h | h
              · exact name_short hx.1 h
              · exact name_short hy.1 h
            refine RSl.at1 onr hnm fun g hg hgs => ?_
            rw [hg]
            refine spec_path (hv.mono ks.le fun _ _ h => h) (by omega) (by omega) fun pv PF s4 k4 op fp => ?_
            have K4 := ks.trans k4
            have c4 := c3.keep k4
            have onr4 := onr.mono k4.le fun _ _ h => h
            have hst := sumBy_take (f := V) hnm
            have hsl := sumBy_le (f := V) (xs := L) (j + 1)
            have hft := flat_take (f := W) hnm
            refine spec_leads c4 (hm.mono K4.le fun _ _ => mono_mk K4.le) (op.rel (ok_str w0)) ?_
            rw [pIf_b]
            refine ⟨fun hld => ?_, fun hld => ?_⟩
            · obtain ⟨n', rfl⟩ := Nat.exists_eq_succ_of_ne_zero hn0
              refine RSl.at1 onr4 hnm fun g2 hg2 _ => ?_
              rw [hg2]
              have hFs : ∀ i, i ∈ b :: G2 → s4 i ≠ none := c4.dom
              have kd4 : Keeps σ0 (delL s4 (b :: G2)) := keeps_delL K4 hF2
              refine spec_l12KidB hFs (mono_rt _ _ _ _ _ kd4.le h0) hx hgs fun e1 s5 k5 r1 => ?_
              have r10 := r1
              obtain ⟨u2, w2, rfl, _, _, _, _, hp2⟩ := r1.cells
              rw [pExtract_s rfl, pExtract_s rfl, hp2]
              refine RSl.at1 (onr4.mono k5.le fun _ _ h => h) hnm fun g3 hg3 _ => ?_
              rw [hg3]
              have c5 := c4.keep k5
              have kd5 : Keeps σ0 (delL s5 (b :: G2)) := keeps_delL (K4.trans k5) hF2
              refine spec_l12KidB c5.dom (mono_rt _ _ _ _ _ kd5.le h0') hy hgs fun e2 s6 k6 r2 => ?_
              have r20 := r2
              obtain ⟨u3, w3, rfl, _, _, _, _, hp3⟩ := r2.cells
              rw [pExtract_s rfl, pExtract_s rfl, hp3]
              simp only [cellOf_agg, List.getD_cons_zero, List.getD_cons_succ]
              have c6 := c5.keep k6
              have K6 := (K4.trans k5).trans k6
              have kd6 : Keeps σ0 (delL s6 (b :: G2)) := keeps_delL K6 hF2
              have kd56 : Keeps (delL s5 (b :: G2)) (delL s6 (b :: G2)) := keeps_delL (delL_keeps.trans k6) fun i hi => delL_none hi
              have f1 := fine_getD (kid_fineT hx nm)
              have f2 := fine_getD (kid_fineT hy nm)
              have hne' : ¬ (kidT x nm = none ∧ kidT y nm = none) := fun h => by
                rcases hmem with hm | hm
                · exact kid_there hx.1 hm h.1
                · exact kid_there hy.1 hm h.2
              have hPF : ∀ i, i ∈ PF → i ∉ b :: G2 := fun i hi h => c3.dom i h (fp i hi)
              have op6 := (op.frame (ok_str w0) ((k5.trans k6).but_at fun i hi => (op.dom (ok_str w0) i hi).2)).frame (σ' := delL s6 (b :: G2)) (ok_str w0) fun i hi => delL_out (hPF i hi)
              have hW1 : W nm = lookE (n' + 1) ms (ps ++ [nm]) (kidT x nm) (kidT y nm) := by rw [← hW, lookW, if_pos hld]
              have hV1 : V nm = lookN (n' + 1) ms (ps ++ [nm]) (kidT x nm) (kidT y nm) := by rw [← hV, lookV, if_pos hld]
              have hlE : (xs ++ (pe ++ ((L.take j).map W).flatten)).length + (W nm).length ≤ 1000000 := by
                have e2 : ((L.map W).flatten).length = (((L.take (j + 1)).map W).flatten).length + (((L.drop (j + 1)).map W).flatten).length := by
                  rw [← List.length_append, ← List.flatten_append, ← List.map_append, List.take_append_drop]
                rw [hft, List.length_append] at e2
                rw [List.length_append] at hEl
                rw [List.length_append, List.length_append]
                omega
              refine ih (σ0 := delL s6 (b :: G2)) (a := kidT x nm) (c := kidT y nm) (op6.rel (ok_str w0)) (hm.mono kd6.le fun _ _ => mono_mk kd6.le) (RT_short _ _ _ _ _ (mono_rt _ _ _ _ _ kd56.le r10) f1.1) (RT_short _ _ _ _ _ r20 f2.1) (kid_fineT hx nm) (kid_fineT hy nm) hne'
                (by rw [List.length_append, sumS_snoc]; simp only [List.length_cons, List.length_nil]; omega) delL_keeps (fun i hi => delL_none hi) c6 (by rw [← hW1]; exact hlE) (by rw [← hV1]; omega) fun ov7 G7 s7 k7 hF7 c7 => ?_
              rw [← hW1, ← hV1] at c7
              rw [pBin_add (by omega)]
              have hon6 := hon.frame (ok_str w0) (((k4.trans k5).trans k6).but_at fun i hi => (hon.dom (ok_str w0) i hi).2)
              have hon7 := hon6.frame (σ' := s7) (ok_str w0) fun i hi => by
                cases hs : s6 i with
                | none => exact absurd hs (hon6.dom (ok_str w0) i hi).2
                | some r => exact k7 i r (by rw [delL_out (hFG i hi)]; exact hs)
              refine hL' _ _ (cc - 1) (by omega) ⟨j + 1, G7, ov7, by omega, kd6.trans k7, fun i hi => none_old kd6 (hF7 i hi), ?_, hon7, fun i hi hi' => ?_, by simp⟩
              · rw [hft, hst, ← List.append_assoc pe, ← List.append_assoc xs]
                rw [show k + (1 + (sumBy V (L.take j) + V nm)) = k + (1 + sumBy V (L.take j)) + V nm by omega]
                exact c7
              · have h1 := hF7 i hi'
                rw [delL_out (hFG i hi)] at h1
                exact (hon6.dom (ok_str w0) i hi).2 h1
            · have hW1 : W nm = [] := by rw [← hW, lookW, if_neg (by rw [hld]; simp)]
              have hV1 : V nm = 0 := by rw [← hV, lookV, if_neg (by rw [hld]; simp)]
              rw [pBin_add (by omega)]
              refine hL' _ _ (cc - 1) (by omega) ⟨j + 1, G2, ov2, by omega, K4, hF2, ?_, hon.frame (ok_str w0) (k4.but_at fun i hi => (hon.dom (ok_str w0) i hi).2), hFG, by simp⟩
              rw [hft, hW1, hst, hV1, List.append_nil, Nat.add_zero]; exact c4
          · have e : j = L.length := by omega
            subst e
            rw [List.take_length] at c3
            exact hR ov2 G2 st ks hF2 c3
        refine hcl.ld 2 _ rfl fun q g hg => ?_
        rw [hg, pBin_add (by omega), show ((k : Nat) : Int) + 1 = ((k + 1 : Nat) : Int) by omega]
        refine hcl.st2 fun s2 k2 c2 => ?_
        have K2 : Keeps σ0 s2 := k2.old k0 hF
        refine c2.ld 0 _ rfl fun q g hg => ?_
        rw [hg]
        refine spec_l11Marked (hm.mono K2.le fun _ _ => mono_mk K2.le) (hv.mono K2.le fun _ _ h => h) ?_
        rw [pIf_b]
        refine ⟨fun hmk => ?_, fun hmk => ?_⟩
        · refine c2.ld 1 _ rfl fun q g hg => ?_
          rw [hg]
          refine spec_part (hv.mono K2.le fun _ _ h => h) (by omega) (mono_rt _ _ _ _ _ K2.le h0) (mono_rt _ _ _ _ _ K2.le h0') fun v3 G3 s3 k3 o3 f3 => ⟨k3.stay, ?_⟩
          refine fin (K2.trans k3) hF (c2.keep k3) o3 (fresh (s' := s3) K2 c2.dom f3) (by rw [if_pos hmk, List.length_append] at hEl; simp only [Option.getD_some]; omega) fun ov' G' s' a1 a2 a3 => ?_
          exact LOOP s' ov' G' _ (by rw [if_pos hmk]; rfl) a1 a2 a3
        · exact LOOP s2 _ G [] (by rw [if_neg (by rw [hmk]; simp)]) K2 hF (by rw [List.append_nil]; exact c2)
end
end Go.Proofs.YtkbhjejalkbogaaGreat

/- 'TrailDiff' by either hand, and its law. -/
set_option linter.unusedVariables false
set_option linter.unusedSimpArgs false
set_option maxRecDepth 20000
namespace Go.Proofs.YtkbhjejalkbogaaGreat
open Go Go.Av

noncomputable def diffM (n m : Nat) (x y : Tr) (ms : List Mk) : List En × Nat := if ((treeOk n x = true ∧ treeOk m y = true) ∧ trailOk ms = true) ∧ 0 < ms.length then (lookE 5 ms [] (some x) (some y), lookN 5 ms [] (some x) (some y)) else ([], 0)
theorem diffM_no {n m : Nat} {x y : Tr} {ms : List Mk} (h : ¬ (((treeOk n x = true ∧ treeOk m y = true) ∧ trailOk ms = true) ∧ 0 < ms.length)) : diffM n m x y ms = ([], 0) := by rw [diffM, if_neg h]
theorem diffM_yes {n m : Nat} {x y : Tr} {ms : List Mk} (h : ((treeOk n x = true ∧ treeOk m y = true) ∧ trailOk ms = true) ∧ 0 < ms.length) : diffM n m x y ms = (lookE 5 ms [] (some x) (some y), lookN 5 ms [] (some x) (some y)) := by rw [diffM, if_pos h]
theorem lookE_path : ∀ (n : Nat) (ms : List Mk) (ps : List ByteArray) (a b : Option Tr) (e : En), e ∈ lookE n ms ps a b → e.1.length ≤ ps.length + n
  | 0, _, _, _, _, e, h => by simp [lookE] at h
  | _ + 1, _, _, none, none, e, h => by simp [lookE] at h
  | n + 1, _, ps, none, some b, e, h => by
    simp only [lookE] at h
    obtain ⟨k, qs, z, rfl, hq, _⟩ := lin_mem _ _ _ h
    exact hq
  | n + 1, _, ps, some _, none, e, h => by
    simp only [lookE, List.mem_singleton] at h
    subst h
    show ps.length ≤ _; omega
  | n + 1, ms, ps, some a, some b, e, h => by
    simp only [lookE] at h
    split at h
    · split at h
      · exact walkE_path _ _ _ _ _ h
      · rcases List.mem_append.1 h with h | h
        · split at h
          · have : e.1 = ps := by
              unfold partE at h
              rcases List.mem_append.1 h with h | h <;> split at h <;> simp at h <;> rw [h]
            rw [this]; omega
          · cases h
        · obtain ⟨l, hl, he⟩ := List.mem_flatten.1 h
          obtain ⟨z, hz, rfl⟩ := List.mem_map.1 hl
          split at he
          · have := lookE_path n _ _ _ _ _ he
            rw [List.length_append] at this
            simp at this; omega
          · cases he
    · rcases List.mem_cons.1 h with h | h
      · subst h
        show ps.length ≤ _; omega
      · obtain ⟨k, qs, z, rfl, hq, _⟩ := lin_mem _ _ _ h
        exact hq
theorem diffM_sum {n m : Nat} {x y : Tr} {ms : List Mk} : sumBy cEn (diffM n m x y ms).1 ≤ 10000 := by
  by_cases hc : ((treeOk n x = true ∧ treeOk m y = true) ∧ trailOk ms = true) ∧ 0 < ms.length
  · rw [diffM_yes hc]
    obtain ⟨_, _, c1⟩ := ok_fineT hc.1.1.1
    obtain ⟨_, _, c2⟩ := ok_fineT hc.1.1.2
    have h1 := lookE_len 5 ms [] (some x) (some y)
    simp only [cntO] at h1
    have h2 : sumBy cEn (lookE 5 ms [] (some x) (some y)) ≤ 9 * (lookE 5 ms [] (some x) (some y)).length := sumBy_bound fun e he => by
      have := lookE_path _ _ _ _ _ _ he
      simp only [List.length_nil] at this
      simp only [cEn]; omega
    show sumBy cEn (lookE 5 ms [] (some x) (some y)) ≤ _
    omega
  · rw [diffM_no hc]; simp [sumBy]

section
variable {w0 : World} {σ : Vw}

abbrev OutDM (w0 : World) (σ : Vw) (d : List En × Nat) (R : Value → Vw → Prop) : Prop := ∀ v F σ', Keeps σ σ' → OSl w0 5 (OEn w0) σ' F v d.1 → (∀ i, i ∈ F → σ i = none) → R (.tuple ⟨[v, .int .i64 (d.2 : Nat)]⟩) σ'
theorem outDM_no {d : List En × Nat} {R : Value → Vw → Prop} {s : Vw} (hR : OutDM w0 σ d R) (hd : d = ([], 0)) (k : Keeps σ s) : pNew w0 t_impl_Entry [] s (fun n3 s4 => R (.tuple (⟨[.slice (some (Addr.mk n3 0 none)) 0 0, .int .i64 0]⟩)) s4) := fun b hb1 hb2 => by
  subst hd
  refine hR _ [b] _ (k.trans (Keeps.put hb2)) ?_ fun i hi => by rw [List.mem_singleton.1 hi]; exact none_old k hb2
  exact (OAcc.new (O := OEn w0) hb1).osl

theorem spec_TrailDiff {n m : Nat} {es es' : List Value} {v : Value} {x y : Tr} {ms : List Mk} (h : RT n (Av.get w0 σ) es x) (h' : RT m (Av.get w0 σ) es' y) (hv : RSl 2 RMk (Av.get w0 σ) v ms) (hb : cntT n x ≤ 1000000000000) (hb' : cntT m y ≤ 1000000000000) {R : Value → Vw → Prop}
    (hR : OutDM w0 σ (diffM n m x y ms) R) : AC Tryz.prog w0 n_spec_TrailDiff [.agg ⟨es⟩, .agg ⟨es'⟩, v] σ R := by
  have h0 := h
  have h0' := h'
  obtain ⟨u, w, rfl, _, _, _, _, hp⟩ := h.cells
  obtain ⟨u', w', rfl, _, _, _, _, hp'⟩ := h'.cells
  refine ac_spec_TrailDiff ?_
  unfold vc_spec_TrailDiff
  rw [hp, hp']
  simp only [cellOf_agg, List.getD_cons_zero, List.getD_cons_succ]
  refine spec_TreeOk h0 hb (pNotIf.2 ⟨fun hno => outDM_no hR (diffM_no (by rw [hno]; simp)) (Keeps.refl _), fun hok => ?_⟩)
  refine spec_TreeOk h0' hb' (pNotIf.2 ⟨fun hno => outDM_no hR (diffM_no (by rw [hno]; simp)) (Keeps.refl _), fun hok' => ?_⟩)
  refine spec_TrailOk hv (pNotIf.2 ⟨fun hno => outDM_no hR (diffM_no (by rw [hno]; simp)) (Keeps.refl _), fun hmk => ?_⟩)
  obtain ⟨d1, x1, c1⟩ := ok_fineT hok
  obtain ⟨d2, x2, c2⟩ := ok_fineT hok'
  intro a ha1 ha2
  have k1 : Keeps σ (σ.put a ⟨t_impl_Entry, [], 0, (0, 0)⟩) := Keeps.put ha2
  have o1 : OAcc w0 t_impl_Entry 5 (OEn w0) (σ.put a ⟨t_impl_Entry, [], 0, (0, 0)⟩) [a] (.slice (some ⟨a, 0, none⟩) 0 0) [] := OAcc.new ha1
  rw [pVal1 hv.one, pVal1 rfl, pVal_3 hv.one rfl rfl]
  generalize hs1 : σ.put a _ = s1 at k1 o1
  intro b hb1 hb2
  have k2 := Keeps.put (r := ⟨t_spec_l12Look, [v, .slice (some ⟨a, 0, none⟩) 0 0, .int .i64 0], 3, (0, 0)⟩) hb2
  have hab : b ≠ a := fun e => by rw [e, ← hs1, put_at] at hb2; cases hb2
  have c0 : CL w0 (s1.put b ⟨t_spec_l12Look, [v, .slice (some ⟨a, 0, none⟩) 0 0, .int .i64 0], 3, (0, 0)⟩) b [a] v (.slice (some ⟨a, 0, none⟩) 0 0) [] 0 :=
    ⟨hb1, fun h => hab (List.mem_singleton.1 h), hv.one, ⟨_, put_at⟩, o1.frame (ok_en w0) (k2.but_at fun i hi => (o1.dom (ok_en w0) i hi).2)⟩
  have K2 := k1.trans k2
  have hF0 : ∀ i, i ∈ [b, a] → σ i = none := fun i hi => by
    simp at hi
    rcases hi with e | e
    · rw [e]; exact none_old k1 hb2
    · rw [e]; exact ha2
  show pLen v _
  generalize Vw.put _ b _ = s2 at k2 c0 K2
  rw [hv.len, pBin_gt, pIf_d]
  refine ⟨fun hpos => ?_, fun hz => ?_⟩
  · rw [diffM_yes ⟨⟨⟨hok, hok'⟩, hmk⟩, by omega⟩] at hR
    intro p hp1 hp2
    have k3 := Keeps.put (r := ⟨t_string, [], 0, (0, 0)⟩) hp2
    have c3 := c0.keep k3
    have hpp : p ∉ [b, a] := fun hi => by
      have := c0.dom p hi
      exact this hp2
    have K3 := K2.trans k3
    generalize hs3 : Vw.put _ p _ = s3 at k3 c3 K3
    have kd : Keeps σ (delL s3 [b, a]) := keeps_delL K3 hF0
    have hpv : RSl 1 RS (Av.get w0 (delL s3 [b, a])) (.slice (some ⟨p, 0, none⟩) 0 0) [] := ⟨_, 0, rfl, by simp, fun j x h => by simp at h⟩
    have le := lookE_len 5 ms [] (some x) (some y)
    have ln := lookN_le 5 ms [] (some x) (some y)
    simp only [cntO] at le ln
    refine spec_look 5 (σ0 := delL s3 [b, a]) (G := [a]) (a := some x) (c := some y) hpv (hv.mono kd.le fun _ _ => mono_mk kd.le) (mono_rt 5 _ _ _ _ kd.le (d1 _ _ h0)) (mono_rt 5 _ _ _ _ kd.le (d2 _ _ h0')) (fun z hz => by cases hz; exact x1) (fun z hz => by cases hz; exact x2) (fun h => by cases h.1) (by simp [sumS]) delL_keeps (fun i hi => delL_none hi) c3 (by simp; omega) (by omega) fun ov G s4 k4 hF4 c4 => ?_
    refine c4.ld 1 _ rfl fun q g hg => ?_
    refine c4.ld 2 _ rfl fun q2 g2 hg2 => ?_
    rw [hg, hg2, Nat.zero_add]
    obtain ⟨_, _, _, _, o4⟩ := c4
    rw [List.nil_append] at o4
    exact hR ov G s4 (kd.trans k4) o4.osl fun i hi => none_old kd (hF4 i (List.mem_cons_of_mem _ hi))
  · rw [diffM_no (by rintro ⟨_, h⟩; omega)] at hR
    refine c0.ld 1 _ rfl fun q g hg => ?_
    refine c0.ld 2 _ rfl fun q2 g2 hg2 => ?_
    rw [hg, hg2]
    obtain ⟨_, _, _, _, o4⟩ := c0
    exact hR _ [a] s2 K2 o4.osl fun i hi => hF0 i (List.mem_cons_of_mem _ hi)

theorem impl_TrailDiff {n m : Nat} {es es' : List Value} {v : Value} {x y : Tr} {ms : List Mk} (h : RT n (Av.get w0 σ) es x) (h' : RT m (Av.get w0 σ) es' y) (hv : RSl 2 RMk (Av.get w0 σ) v ms) (hb : cntT n x ≤ 1000000000000) (hb' : cntT m y ≤ 1000000000000) {R : Value → Vw → Prop}
    (hR : OutDM w0 σ (diffM n m x y ms) R) : AC Tryz.prog w0 n_impl_TrailDiff [.agg ⟨es⟩, .agg ⟨es'⟩, v] σ R := by
  have h0 := h
  have h0' := h'
  obtain ⟨e0, e1, e2, e3, e4, rfl, _, hpv⟩ := RT.five h
  obtain ⟨e0', e1', e2', e3', e4', rfl, _, hpv'⟩ := RT.five h'
  refine ac_impl_TrailDiff ?_
  unfold vc_impl_TrailDiff
  rw [hpv]
  simp only [cellOf_agg, List.getD_cons_zero, List.getD_cons_succ]
  intro a ha1 ha2
  have k1 : Keeps σ (σ.put a ⟨t_impl_Tree, [e0, e1, e2, e3, e4], 5, (0, 0)⟩) := Keeps.put ha2
  have p1 := PT.new (ety := t_impl_Tree) (c := 5) h0 ha1 ha2
  rw [hpv']
  intro b hb1 hb2
  have k2 := Keeps.put (r := ⟨t_impl_Tree, [e0', e1', e2', e3', e4'], 5, (0, 0)⟩) hb2
  have p2 := PT.new (ety := t_impl_Tree) (c := 5) (mono_rt _ _ _ _ _ k1.le h0') hb1 hb2
  have p1' := p1.mono k2.le
  have K2 := k1.trans k2
  generalize hs : Vw.put _ b _ = s at k2 p2 p1' K2
  clear hs
  refine PT.load p1' fun g hg => ?_
  refine impl_TreeOk hg hb (pNotIf.2 ⟨fun hno => outDM_no hR (diffM_no (by rw [hno]; simp)) K2, fun hok => ?_⟩)
  refine PT.load p2 fun g' hg' => ?_
  refine impl_TreeOk hg' hb' (pNotIf.2 ⟨fun hno => outDM_no hR (diffM_no (by rw [hno]; simp)) K2, fun hok' => ?_⟩)
  have hvs := hv.mono K2.le fun _ _ => mono_mk K2.le
  refine impl_TrailOk hvs (pNotIf.2 ⟨fun hno => outDM_no hR (diffM_no (by rw [hno]; simp)) K2, fun hmk => ?_⟩)
  obtain ⟨d1, x1, c1⟩ := ok_fineT hok
  obtain ⟨d2, x2, c2⟩ := ok_fineT hok'
  rw [hvs.len, pBin_eq, pIf_d]
  refine ⟨fun hz => outDM_no hR (diffM_no (by rintro ⟨_, h⟩; omega)) K2, fun hz => ?_⟩
  rw [diffM_yes ⟨⟨⟨hok, hok'⟩, hmk⟩, by omega⟩] at hR
  refine impl_look 5 (ps := []) (by omega) (nil_in (G := []) s (KeepsBut.refl _ _)) hvs (a := some x) (b := some y) (PT_of d1 p1') (PT_of d2 p2) (fun z hz => by cases hz; exact x1) (fun z hz => by cases hz; exact x2) (fun h => by cases h.1) (by simp [sumS]) fun v1 G s' k o f => ?_
  rw [pExtract_s rfl, pExtract_s rfl]
  exact hR v1 G s' (K2.trans k) o.osl fun i hi => none_old K2 (f i hi)

theorem law_TrailDiff {n m : Nat} {es es' : List Value} {v : Value} {x y : Tr} {ms : List Mk} (h : RT n (Av.get w0 σ) es x) (h' : RT m (Av.get w0 σ) es' y) (hv : RSl 2 RMk (Av.get w0 σ) v ms) {R : Value → Vw → Prop} (hR : ∀ σ', R (.bool true) σ') :
    AC Tryz.prog w0 n_laws_FnExactTrailDiff [.agg ⟨es⟩, .agg ⟨es'⟩, v] σ R := by
  have h0 := h
  have h0' := h'
  obtain ⟨e0, e1, e2, e3, e4, rfl, _, hpv⟩ := RT.five h
  obtain ⟨e0', e1', e2', e3', e4', rfl, _, hpv'⟩ := RT.five h'
  refine ac_laws_FnExactTrailDiff ?_
  unfold vc_laws_FnExactTrailDiff
  rw [hpv, hpv']
  simp only [cellOf_agg, List.getD_cons_zero, List.getD_cons_succ]
  refine szTree n h0 (by omega) ?_
  rw [pBin_lt, pIf_d]
  refine ⟨fun _ => hR _, fun hlow => ?_⟩
  rw [Av.left_neg] at hlow
  rw [Av.left_in (by omega)]
  refine szTree m h0' (by omega) ?_
  rw [pBin_lt, pIf_d]
  refine ⟨fun _ => hR _, fun hlow' => ?_⟩
  rw [Av.left_neg] at hlow'
  rw [Av.left_in (by omega)]
  refine szMarkS hv (by omega) ?_
  rw [pBin_lt, pIf_d]
  refine ⟨fun _ => hR _, fun hb2 => ?_⟩
  rw [Av.left_neg] at hb2
  have hsz : szT n x ≤ 1048576 := by omega
  have hsz' : szT m y ≤ 1048576 := by omega
  have hfit := fit_of n x (by omega)
  have hfit' := fit_of m y (by omega)
  have hcnt : cntT n x ≤ 1000000000000 := Nat.le_trans (cnt_le n x) (by omega)
  have hcnt' : cntT m y ≤ 1000000000000 := Nat.le_trans (cnt_le m y) (by omega)
  have hlen : ms.length ≤ 1000000000000 := by omega
  have heach : ∀ x, x ∈ ms → x.1.length ≤ 1000000000000 := fun x hx => by
    have := sumBy_mem (f := szMk) hx
    unfold szMk at this hb2
    omega
  have ok := ok_rt w0 n
  have ok' := ok_rt w0 m
  have okm := ok_mk w0
  refine toTree n h0 hfit fun es1 F1 s1 k1 o1 f1 => ?_
  refine toTree m (mono_rt m _ _ _ _ k1.le h0') hfit' fun es1' F1' s2 k2 o1' f1' => ?_
  have K2 := k1.trans k2
  refine toMarkS (hv.mono K2.le fun _ _ => mono_mk K2.le) hlen heach fun v1 G1 s3 k3 p1 g1 => ?_
  have K3 := K2.trans k3
  have hcT := cT_le n x
  have hcT' := cT_le m y
  have hcs := cMk_sz (l := ms)
  have hsum := diffM_sum (n := n) (m := m) (x := x) (y := y) (ms := ms)
  refine spec_TrailDiff (mono_rt n _ _ _ _ (k2.trans k3).le (ok.rel _ _ _ _ o1)) (mono_rt m _ _ _ _ k3.le (ok'.rel _ _ _ _ o1')) (p1.rel okm) hcnt hcnt' fun wv Fw s4 k4 ow fw => ?_
  have hw := ow.rel (ok_en w0)
  rw [pExtract_s rfl, pExtract_s rfl]
  have K4 := K3.trans k4
  refine toTree n (mono_rt n _ _ _ _ K4.le h0) hfit fun es2 F2 s5 k5 o2 f2 => ?_
  have r2 := ok.rel _ _ _ _ o2
  obtain ⟨a2, b2, c2, d2, g2, rfl, q2, hp2⟩ := RT.five r2
  rw [hp2]
  simp only [cellOf_agg, List.getD_cons_zero, List.getD_cons_succ]
  have K5 := K4.trans k5
  refine toTree m (mono_rt m _ _ _ _ K5.le h0') hfit' fun es2' F2' s6 k6 o2' f2' => ?_
  have r2' := ok'.rel _ _ _ _ o2'
  obtain ⟨a2', b2', c2', d2', g2', rfl, q2', hp2'⟩ := RT.five r2'
  rw [hp2']
  simp only [cellOf_agg, List.getD_cons_zero, List.getD_cons_succ]
  have K6 := K5.trans k6
  refine toMarkS (hv.mono K6.le fun _ _ => mono_mk K6.le) hlen heach fun v2 G2 s7 k7 p2 g2 => ?_
  have K7 := K6.trans k7
  refine impl_TrailDiff (mono_rt n _ _ _ _ (k6.trans k7).le r2) (mono_rt m _ _ _ _ k7.le r2') (p2.rel okm) hcnt hcnt' fun gv Fg s8 k8 og fg => ?_
  rw [pExtract_s rfl, pExtract_s rfl]
  have K8 := K7.trans k8
  have k48 := ((k5.trans k6).trans k7).trans k8
  refine eqEntryS (og.rel (ok_en w0)) (hw.mono k48.le fun _ _ => mono_en k48.le) ?_
  rw [pUn_not, pIf_b]
  refine ⟨fun h => by simp at h, fun _ => ?_⟩
  rw [pBin_ne, pIf_d]
  refine ⟨fun h => absurd rfl h, fun _ => ?_⟩
  refine toTree n (mono_rt n _ _ _ _ K8.le h0) hfit fun es3 F3 s9 k9 o3 f3 => ?_
  refine eqTree n (mono_rt n _ _ _ _ (((k6.trans k7).trans k8).trans k9).le r2) (ok.rel _ _ _ _ o3) ?_
  rw [pUn_not, pIf_b]
  refine ⟨fun h => by simp at h, fun _ => ?_⟩
  have K9 := K8.trans k9
  refine toTree m (mono_rt m _ _ _ _ K9.le h0') hfit' fun es3' F3' s10 k10 o3' f3' => ?_
  refine eqTree m (mono_rt m _ _ _ _ (((k7.trans k8).trans k9).trans k10).le r2') (ok'.rel _ _ _ _ o3') ?_
  rw [pUn_not, pIf_b]
  refine ⟨fun h => by simp at h, fun _ => ?_⟩
  have K10 := K9.trans k10
  refine toMarkS (hv.mono K10.le fun _ _ => mono_mk K10.le) hlen heach fun v3 G3 s11 k11 p3 g3 => ?_
  have kk := ((k8.trans k9).trans k10).trans k11
  refine eqMarkS ((p2.rel okm).mono kk.le fun _ _ => mono_mk kk.le) (p3.rel okm) ?_
  rw [pUn_not, pIf_b]
  refine ⟨fun h => by simp at h, fun _ => ?_⟩
  -- the marks of the arguments
  have k811 := (k9.trans k10).trans k11
  have o211 := ok.frame _ s11 _ _ _ o2 ((((k6.trans k7).trans k8).trans k811).but_at fun b hb => (ok.dom _ _ _ _ o2 b hb).2)
  refine markTree (k := 1) o211 (by omega) fun s12 k12 _ => ?_
  have o211' := ok'.frame _ s11 _ _ _ o2' (((k7.trans k8).trans k811).but_at fun b hb => (ok'.dom _ _ _ _ o2' b hb).2)
  have o212' := ok'.frame _ s12 _ _ _ o211' (k12.at (fun b hb => (ok'.dom _ _ _ _ o211' b hb).2) fun b hb hb' => (ok.dom _ _ _ _ o2 b hb').2 (f2' b hb))
  refine markTree (k := 1 + cT n x - 3) o212' (by omega) fun s13 k13 _ => ?_
  have p211 := p2.frame (σ' := s11) okm ((k8.trans k811).but_at fun b hb => (p2.dom okm b hb).2)
  have p212 := p211.frame okm (k12.at (fun b hb => (p211.dom okm b hb).2) fun b hb hb' => (ok.dom _ _ _ _ o2 b hb').2 (none_old k6 (g2 b hb)))
  have p213 := p212.frame okm (k13.at (fun b hb => (p212.dom okm b hb).2) fun b hb hb' => (ok'.dom _ _ _ _ o2' b hb').2 (g2 b hb))
  refine markMarkS (k := 1 + cT n x - 3 + cT m y - 3) p213 (by omega) fun s14 k14 _ => ?_
  rw [pBin_lt, pIf_d]
  refine ⟨fun h => by omega, fun _ => ?_⟩
  have k411 := k48.trans k811
  have kw14 : Keeps s4 s14 := k14.old (k13.old (k12.old k411 f2) fun b hb => none_old k5 (f2' b hb)) fun b hb => none_old (k5.trans k6) (g2 b hb)
  have g11 := og.frame (σ' := s11) (ok_en w0) (k811.but_at fun b hb => (og.dom (ok_en w0) b hb).2)
  have g12 := g11.frame (ok_en w0) (k12.at (fun b hb => (g11.dom (ok_en w0) b hb).2) fun b hb hb' => (ok.dom _ _ _ _ o2 b hb').2 (none_old (k6.trans k7) (fg b hb)))
  have g13 := g12.frame (ok_en w0) (k13.at (fun b hb => (g12.dom (ok_en w0) b hb).2) fun b hb hb' => (ok'.dom _ _ _ _ o2' b hb').2 (none_old k7 (fg b hb)))
  have g14 := g13.frame (ok_en w0) (k14.at (fun b hb => (g13.dom (ok_en w0) b hb).2) fun b hb hb' => (p2.dom okm b hb').2 (fg b hb))
  refine eqEntryS (g14.rel (ok_en w0)) (hw.mono kw14.le fun _ _ => mono_en kw14.le) ?_
  rw [pUn_not, pIf_b]
  refine ⟨fun h => by simp at h, fun _ => ?_⟩
  rw [pBin_ne, pIf_d]
  refine ⟨fun h => absurd rfl h, fun _ => ?_⟩
  refine markEntryS (k := 1) g14 (by omega) fun s15 k15 g15 => ?_
  refine heldEntryS (k := 1) (g15.rel (ok_en w0)) (by omega) fun s16 k16 => ?_
  rw [pBin_lt, pIf_d]
  refine ⟨fun h => by omega, fun _ => ?_⟩
  rw [pBin_ne, pIf_d]
  refine ⟨fun h => absurd rfl h, fun _ => ?_⟩
  have g16 := g15.frame (ok_en w0) (k16.but_at fun b hb => (g15.dom (ok_en w0) b hb).2)
  have kw16 : Keeps s4 s16 := (k15.old kw14 fun b hb => none_old ((k5.trans k6).trans k7) (fg b hb)).trans k16
  have K16 : Keeps σ s16 := K4.trans kw16
  refine toTree n (mono_rt n _ _ _ _ K16.le h0) hfit fun es4 F4 s17 k17 o4 f4 => ?_
  refine toTree m (mono_rt m _ _ _ _ (K16.trans k17).le h0') hfit' fun es4' F4' s18 k18 o4' f4' => ?_
  have K18 := (K16.trans k17).trans k18
  refine toMarkS (hv.mono K18.le fun _ _ => mono_mk K18.le) hlen heach fun v4 G4 s19 k19 p4 g4 => ?_
  refine impl_TrailDiff (mono_rt n _ _ _ _ (k18.trans k19).le (ok.rel _ _ _ _ o4)) (mono_rt m _ _ _ _ k19.le (ok'.rel _ _ _ _ o4')) (p4.rel okm) hcnt hcnt' fun hv' Fh s20 k20 oh fh => ?_
  rw [pExtract_s rfl, pExtract_s rfl]
  have k1620 := ((k17.trans k18).trans k19).trans k20
  have kw20 := kw16.trans k1620
  refine eqEntryS (oh.rel (ok_en w0)) (hw.mono kw20.le fun _ _ => mono_en kw20.le) ?_
  rw [pUn_not, pIf_b]
  refine ⟨fun h => by simp at h, fun _ => ?_⟩
  rw [pBin_ne, pIf_d]
  refine ⟨fun h => absurd rfl h, fun _ => ?_⟩
  have g20 := g16.frame (ok_en w0) (k1620.but_at fun b hb => (g16.dom (ok_en w0) b hb).2)
  refine heldEntryS (k := 1) (g20.rel (ok_en w0)) (by omega) fun s21 k21 => ?_
  rw [pBin_lt, pIf_d]
  refine ⟨fun h => by omega, fun _ => ?_⟩
  rw [pBin_ne, pIf_d]
  exact ⟨fun h => absurd rfl h, fun _ => hR _⟩
end
end Go.Proofs.YtkbhjejalkbogaaGreat

/- The law FnExactTrailDiff holds: it returns true, and the input reads as it did. No condition. -/
namespace Go.Proofs.YtkbhjejalkbogaaGreat.fnExactTrailDiff
open Go.ChangeShapes Go.WideShapes Go.ChangeAt Go.RowKit Go.Av
set_option linter.unusedVariables false
set_option linter.unusedSimpArgs false
theorem own : ownKnob Tryz.prog.godebug = none := by kernel_rfl
theorem laidOut : laidOutB Tryz.prog = true := by kernel_rfl
set_option maxRecDepth 100000 in
theorem lifted (os : Os) (started : os.Started) (H : Type) (enc : TypeId × Value → H) :
    ReturnsInHanded {} Tryz.checked os 4 .any (Rows.fnExactTrailDiffSpec.pre6 enc Tryz.prog Tryz.f4 Rows.fnExactTrailDiffRow.domain false) (Rows.fnExactTrailDiffSpec.post enc Tryz.prog Tryz.f4 false true false false) := by
  refine returnsInHanded_of_change_sized (C := Tryz.checked) own started (by kernel_rfl) Tryz.func4
    (ChangeSpec.witness6 (enc := enc) (C := Tryz.checked) false ⟨#[], #[.agg #[.bool false, .int .i64 0, .string ⟨#[]⟩, .slice none 0 0, .slice none 0 0], .agg #[.bool false, .int .i64 0, .string ⟨#[]⟩, .slice none 0 0, .slice none 0 0], .slice none 0 0], []⟩ 8 (by kernel_rfl) (by kernel_rfl) (by kernel_rfl) (by kernel_rfl)) ?_
  intro W base args ds gs before hval0 hW hcnd hsz0 _
  have hval : ∀ (j : Nat) t v, Tryz.f4.params[j]? = some t → args[j]? = some v → Value.okWide Tryz.prog W .any base t v := hval0
  have hW' := hW
  obtain ⟨p, q, hA0, hV, rfl, hfz, hnd⟩ := hW
  have hA : DataW.TrodAll enc Tryz.prog W 0 (fun _ => true) true Tryz.f4.params.toList args.toList ds p := hA0
  rw [Tryz.params4] at hA hval
  obtain ⟨v0, v1, v2, d0, d1, d2, p0, p1, p2, rfl, rfl, hpp, h0, h1, h2⟩ := trodAll_three hA
  obtain ⟨rfl, rfl⟩ := trodVars_none hV
  have hT0 : Tryz.prog.underlying 43 = some (.struct (fsOf Tryz.prog 43)) := by kernel_rfl
  obtain ⟨c0, rfl, hc0⟩ := okWide_struct hT0 (hval 0 43 v0 rfl rfl)
  have hT1 : Tryz.prog.underlying 43 = some (.struct (fsOf Tryz.prog 43)) := by kernel_rfl
  obtain ⟨c1, rfl, hc1⟩ := okWide_struct hT1 (hval 1 43 v1 rfl rfl)
  obtain ⟨A2, len2, cap2, rfl⟩ := okWide_slice (t := 44) (e := 88) (by kernel_rfl) (hval 2 44 v2 rfl rfl)
  have h0k := h0
  obtain ⟨fuel0, hf0⟩ := h0
  have h1k := h1
  obtain ⟨fuel1, hf1⟩ := h1
  have h2k := h2
  obtain ⟨fuel2, hf2⟩ := h2
  clear hA0 hval0 hsz0
  simp only [List.append_nil] at hW'
  have hlt : ∀ x ∈ p, x.block < W.heap.size := fun x hx => by simpa using hW'.lt x hx
  have hargs0 : ∀ (W' : World), Below W.heap.size W W' → DataW.Trod enc Tryz.prog W' 0 (fun b => decide (b < W.heap.size)) true 43 (.agg c0) d0 p0 :=
    fun W' hn => Below.trod laidOut (by kernel_rfl) (of_decide_eq_true (by kernel_rfl)) h0k hn (fun x hx => hlt x (by rw [hpp]; simp [hx]))
  have hargs1 : ∀ (W' : World), Below W.heap.size W W' → DataW.Trod enc Tryz.prog W' 0 (fun b => decide (b < W.heap.size)) true 43 (.agg c1) d1 p1 :=
    fun W' hn => Below.trod laidOut (by kernel_rfl) (of_decide_eq_true (by kernel_rfl)) h1k hn (fun x hx => hlt x (by rw [hpp]; simp [hx]))
  have hargs2 : ∀ (W' : World), Below W.heap.size W W' → DataW.Trod enc Tryz.prog W' 0 (fun b => decide (b < W.heap.size)) true 44 (.slice A2 len2 cap2) d2 p2 :=
    fun W' hn => Below.trod laidOut (by kernel_rfl) (of_decide_eq_true (by kernel_rfl)) h2k hn (fun x hx => hlt x (by rw [hpp]; simp [hx]))
  have hl0 : c0.toList.length = 5 := by rw [Array.length_toList, hc0]; kernel_rfl
  obtain ⟨x0, r0⟩ := open_tree fuel0 c0.toList _ hf0 hl0
  have hl1 : c1.toList.length = 5 := by rw [Array.length_toList, hc1]; kernel_rfl
  obtain ⟨x1, r1⟩ := open_tree fuel1 c1.toList _ hf1 hl1
  obtain ⟨u2, x2, hu2, r2⟩ := open_rsl (t := t_s_laws_Mark) (e := t_laws_Mark) (by kernel_rfl) (by kernel_rfl) open_mk hf2
  have hu2' : u2 = .slice A2 len2 cap2 := by
    have : [Value.slice A2 len2 cap2] = [u2] := hu2
    cases this; rfl
  subst hu2'
  refine ((law_TrailDiff (R := fun v _ => v = .bool true) r0 r1 r2 (by intros; rfl)).calls).mono fun e W' ⟨v, σ', he, hv, bel⟩ => ?_
  subst he hv
  have hW'' := hW'
  rw [hpp] at hW''
  simp only [List.append_assoc] at hW''
  exact ⟨_, rfl, _, _, _, [], _, [], hW'', trodAll_mk1 (shut_bool Tryz.underlying4 _), trodAll_mk3 (hargs0 W' bel) (hargs1 W' bel) (hargs2 W' bel), rfl, bel.frame _, fun h => by cases h⟩
theorem over : Rows.fnExactTrailDiffRow.holds Tryz.pinned (OpenSpec.ofChange Rows.fnExactTrailDiffSpec) :=
  OpenClaim.holds_of_wide 4 Tryz.f4 rfl rfl rfl rfl rfl rfl rfl ⟨rfl, rfl, rfl, rfl, rfl⟩ rfl rfl rfl rfl rfl (by kernel_rfl) Tryz.func4 (by kernel_rfl)
    (of_decide_eq_true (by kernel_rfl)) (by unfold Func.isWrapper; first | (rw [if_pos (by decide +kernel)]; kernel_rfl) | (rw [if_neg (by decide +kernel)]; exact ⟨rfl, rfl⟩))
    (fun os started H enc _ => lifted os started H enc)
theorem proved : Rows.FnExactTrailDiffSaid := over
end Go.Proofs.YtkbhjejalkbogaaGreat.fnExactTrailDiff
namespace Go.Proofs.YtkbhjejalkbogaaGreat
/-- The row, under a short name, for the claim. -/
theorem fnExactTrailDiff_holds : Rows.FnExactTrailDiffSaid := fnExactTrailDiff.proved
end Go.Proofs.YtkbhjejalkbogaaGreat
