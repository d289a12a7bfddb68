/- The law FnLayerText holds: it returns true, and the input reads as it did. No condition. This is part 4 of 5 of its proof. -/
import Derived.Test.YtkbhjejalkbogaaGreatDoorXFnLayerText3
import Derived.Lib.SlicesCompact
import Derived.Sort.Walk0
import Derived.Below
import Derived.WalkSmall
import Derived.Lib.IndexBytes
import Derived.Shelf.Strings.BuilderX
import Derived.BigCall
import Derived.BigGuard
import Derived.Lib.AppendStr
import Derived.Shelf.Strings.Builder1
import Derived.Shelf.Strings.Builder2

/- What is said of a tree part by part, in order: a list. -/
set_option linter.unusedVariables false
set_option linter.unusedSimpArgs false
namespace Go.Proofs.YtkbhjejalkbogaaGreatDoor
open Go Go.Av

def linT {α : Type} (f : Nat → List ByteArray → Tr → α) : Nat → List ByteArray → Tr → List α
  | 0, _, _ => []
  | n + 1, ps, .mk d m t ns ks => f (n + 1) ps (.mk d m t ns ks) :: ((ns.zip ks).map fun y => linT f n (ps ++ [y.1]) y.2).flatten
theorem linT_step {α : Type} (f : Nat → List ByteArray → Tr → α) (n : Nat) (ps : List ByteArray) (d : Bool) (m : Int) (t : ByteArray) (ns : List ByteArray) (ks : List Tr) :
    linT f (n + 1) ps (.mk d m t ns ks) = f (n + 1) ps (.mk d m t ns ks) :: ((ns.zip ks).map fun y => linT f n (ps ++ [y.1]) y.2).flatten := rfl
theorem zip_sum {f : Tr → Nat} : ∀ {ns : List ByteArray} {ks : List Tr}, sumBy (fun y : ByteArray × Tr => f y.2 + 1) (ns.zip ks) ≤ ks.length + sumBy f ks
  | [], ks => by simp [sumBy]
  | _ :: _, [] => by simp [sumBy]
  | x :: ns, k :: ks => by
    have := zip_sum (f := f) (ns := ns) (ks := ks)
    simp only [List.zip_cons_cons, sumBy, List.length_cons]; omega
theorem flat_sum {α β : Type} {f : β → List α} {g : β → Nat} : ∀ {l : List β}, (∀ x, x ∈ l → (f x).length ≤ g x) → ((l.map f).flatten).length ≤ sumBy g l
  | [], _ => by simp [sumBy]
  | a :: r, h => by
    have h1 := h a (by simp)
    have h2 := flat_sum (l := r) fun x hx => h x (by simp [hx])
    simp only [List.map_cons, List.flatten_cons, List.length_append, sumBy]; omega
theorem linT_len {α : Type} (f : Nat → List ByteArray → Tr → α) : ∀ (n : Nat) (ps : List ByteArray) (x : Tr), (linT f n ps x).length ≤ cntT n x + 1
  | 0, _, _ => by simp [linT]
  | n + 1, ps, .mk d m t ns ks => by
    have h1 : (((ns.zip ks).map fun y => linT f n (ps ++ [y.1]) y.2).flatten).length ≤ sumBy (fun y : ByteArray × Tr => cntT n y.2 + 1) (ns.zip ks) := flat_sum fun y _ => linT_len f n _ _
    have h2 := zip_sum (f := cntT n) (ns := ns) (ks := ks)
    rw [linT_step, List.length_cons]
    show _ ≤ ks.length + sumBy (cntT n) ks + 1
    omega
theorem flat_take {α β : Type} {f : β → List α} {l : List β} {j : Nat} {y : β} (h : l[j]? = some y) : ((l.take (j + 1)).map f).flatten = ((l.take j).map f).flatten ++ f y := by
  rw [List.take_add_one, h, Option.toList_some, List.map_append, List.flatten_append]; simp
theorem sumS_snoc (y : ByteArray) : ∀ l : List ByteArray, sumS (l ++ [y]) = sumS l + y.size
  | [] => by simp [sumS]
  | a :: r => by simp only [List.cons_append, sumS, sumS_snoc y r]; omega

section
variable {w0 : World} {σ : Vw} {α : Type}

theorem none_old {σ s : Vw} (k : Keeps σ s) {i : Nat} (h : s i = none) : σ i = none := by
  cases hs : σ i with
  | none => rfl
  | some r => rw [k i r hs] at h; cases h

/-- One element, in a row of its own. -/
theorem OAcc.single {ety n b : Nat} {Rel : (Addr → Option Value) → List Value → α → Prop} {O : Vw → List Nat → List Value → α → Prop} (ok : OOk w0 n Rel O) {es : List Value} {f : List Nat} {y : α} (hb : w0.heap.size ≤ b) (hn : σ b = none) (hy : O σ f es y) :
    OAcc w0 ety n O (σ.put b ⟨ety, es, es.length, (0, 0)⟩) (b :: f) (.slice (some ⟨b, 0, none⟩) 1 1) [y] := by
  have hf : ∀ i, i ∈ f → i ≠ b := fun i hi e => (ok.dom _ _ _ _ hy i hi).2 (e ▸ hn)
  refine ⟨by simp, List.nodup_cons.2 ⟨fun h => hf b h rfl, ok.nodup _ _ _ _ hy⟩, .inr ⟨b, 1, [es], [f], rfl, by simp, hb, ?_, rfl, rfl, by simp, fun j c x g e1 e2 e3 => ?_⟩⟩
  · rw [put_at, ok.len _ _ _ _ hy]; simp
  · cases j with
    | zero =>
      simp at e1 e2 e3
      subst e1 e2 e3
      exact ok.frame _ _ _ _ _ hy fun i hi => put_ne (hf i hi)
    | succ j => simp at e1

/-- A path, and a name more. -/
theorem push_path {v : Value} {ps : List ByteArray} {y : ByteArray} (h : RSl 1 RS (Av.get w0 σ) v ps) (hl : ps.length ≤ 1000000) (hy : y.size ≤ 1000000) {R : Value → Vw → Prop}
    (hR : ∀ v' F σ', Keeps σ σ' → OStrs w0 σ' F v' (ps ++ [y]) → (∀ b, b ∈ F → σ b = none) → R v' σ') :
    pNew w0 t_string [] σ (fun n0 s1 => pAppendS w0 t_string 1 16 (.slice (some (Addr.mk n0 0 none)) 0 0) v s1 (fun v2 s3 => pVal false 1 (.string y) ((allOne [.string y]) ∧ (pAppend w0 t_string 1 16 v2 1 [.string y] s3 (fun v4 s5 => R v4 s5))))) := by
  intro b h1 h2
  have kb : Keeps σ (σ.put b ⟨t_string, [], 0, (0, 0)⟩) := Keeps.put h2
  have hb0 : ∀ i, i ∈ [b] → σ i = none := fun i hi => by rw [List.mem_singleton.1 hi]; exact h2
  refine (OAcc.new (w0 := w0) (σ := σ) (ety := t_string) (n := 1) (O := OStr) h1).all (ok_str w0) h kb.le (fun es y hy => ⟨rfl, hy⟩) (by simp; omega) (by omega) fun v1 F1 s1 k1 o1 f1 => ?_
  rw [List.nil_append] at o1
  have K1 := k1.old kb hb0
  have hF1 := fresh_in kb hb0 f1
  rw [pVal1 rfl]
  refine o1.one (ok_str w0) (f := []) (y := y) ⟨rfl, rfl, by omega⟩ (by simp) (by omega) (by omega) fun v2 F2 s2 k2 o2 f2 => ?_
  refine hR v2 F2 s2 (k2.old K1 hF1) o2.osl (fresh_in K1 hF1 fun j hj => ?_)
  rcases f2 j hj with h | h | h
  · exact .inl h
  · cases h
  · exact .inr h
theorem spec_path {v : Value} {ps : List ByteArray} {y : ByteArray} (h : RSl 1 RS (Av.get w0 σ) v ps) (hl : ps.length ≤ 1000000) (hy : y.size ≤ 1000000) {R : Value → Vw → Prop}
    (hR : ∀ v' F σ', Keeps σ σ' → OStrs w0 σ' F v' (ps ++ [y]) → (∀ b, b ∈ F → σ b = none) → R v' σ') : AC Tryz.prog w0 n_spec_l3Path [v, .string y] σ R := by
  refine ac_spec_l3Path ?_
  unfold vc_spec_l3Path
  exact push_path h hl hy hR
theorem copy_strs {v : Value} {xs : List ByteArray} (h : RSl 1 RS (Av.get w0 σ) v xs) (hl : xs.length ≤ 1000000000) {K : Value → Vw → Prop}
    (hK : ∀ v' F σ', Keeps σ σ' → OStrs w0 σ' F v' xs → (∀ b, b ∈ F → σ b = none) → K v' σ') : pNew w0 t_string [] σ (fun n0 s1 => pAppendS w0 t_string 1 16 (.slice (some (Addr.mk n0 0 none)) 0 0) v s1 (fun v2 s3 => K v2 s3)) := by
  intro b h1 h2
  have kb : Keeps σ (σ.put b ⟨t_string, [], 0, (0, 0)⟩) := Keeps.put h2
  have hb0 : ∀ i, i ∈ [b] → σ i = none := fun i hi => by rw [List.mem_singleton.1 hi]; exact h2
  refine (OAcc.new (w0 := w0) (σ := σ) (ety := t_string) (n := 1) (O := OStr) h1).all (ok_str w0) h kb.le (fun es y hy => ⟨rfl, hy⟩) (by simp; omega) (by omega) fun v' F' σ' k1 o1 f1 => ?_
  exact hK v' F' σ' (k1.old kb hb0) (by simpa using o1.osl) (fresh_in kb hb0 f1)

/-! ### By the reference's hand: a loop over the kids -/
def BLin (w0 : World) (F ety : Nat) : List Value → (AX → List Value → Vw → Prop) → Vw → Prop := fun l6 K7 s8 =>
  pLen (vget l6 6) (fun v9 => pBin Tryz.prog 3 .lss (vget l6 2) v9 (fun v10 => pIf v10 (pIndexAddr 1 (vget l6 6) (vget l6 2) (fun v11 => pLoad w0 1 v11 s8 (fun g12 => pIndexAddr 5 (vget l6 7) (vget l6 2) (fun v13 => pLoad w0 5 v13 s8 (fun g14 =>
    AC Tryz.prog w0 n_spec_l3Path [vget l6 0, g12 0] s8 (fun v15 s16 => (Stay w0 s8 s16 v13 5) ∧ (AC Tryz.prog w0 F ([v15, .agg (⟨[g14 0, g14 1, g14 2, g14 3, g14 4]⟩)]) s16 (fun v17 s18 => pAppendS w0 ety 5 64 (vget l6 1) v17 s18 (fun v19 s20 => pBin Tryz.prog 3 .add (vget l6 2) (.int .i64 1) (fun v21 =>
    K7 AX.normal [vget l6 0, v19, v21, vget l6 3, vget l6 4, vget l6 5, vget l6 6, vget l6 7] s20)))))))))) (K7 (AX.exit 0) [vget l6 0, vget l6 1, vget l6 2, vget l6 3, vget l6 4, vget l6 5, vget l6 6, vget l6 7] s8)))

/-- What a function that lists a part and all below does. -/
def Lists (w0 : World) (F ety : Nat) (O : Vw → List Nat → List Value → α → Prop) (f : Nat → List ByteArray → Tr → α) (n : Nat) : Prop :=
  ∀ {s : Vw} {v : Value} {es : List Value} {qs : List ByteArray} {x : Tr} {R : Value → Vw → Prop}, RSl 1 RS (Av.get w0 s) v qs → RT n (Av.get w0 s) es x → shortT n x → cntT n x ≤ 100000 → qs.length + sumS qs + 6 * n ≤ 1000000 →
    (∀ v' G s', Keeps s s' → OAcc w0 ety 5 O s' G v' (linT f n qs x) → (∀ i, i ∈ G → s i = none) → R v' s') → AC Tryz.prog w0 F [v, .agg ⟨es⟩] s R

theorem lin_loop {F ety n : Nat} {Rel : (Addr → Option Value) → List Value → α → Prop} {O : Vw → List Nat → List Value → α → Prop} (ok : OOk w0 5 Rel O) {f : Nat → List ByteArray → Tr → α} (call : Lists w0 F ety O f n)
    {s0 : Vw} {v u w acc d m t : Value} {ps ns : List ByteArray} {ks : List Tr} {y : α} {G : List Nat}
    (hv : RSl 1 RS (Av.get w0 σ) v ps) (hu : RSl 1 RS (Av.get w0 σ) u ns) (hw : RSl 5 (RT n) (Av.get w0 σ) w ks) (hl : ns.length = ks.length) (hns : ∀ x, x ∈ ns → x.size ≤ 5) (hks : ∀ k, k ∈ ks → shortT n k)
    (hc : ks.length + sumBy (cntT n) ks ≤ 100000) (hps : ps.length + sumS ps + 6 * (n + 1) ≤ 1000000) (hacc : OAcc w0 ety 5 O s0 G acc [y]) (k0 : Keeps σ s0) (hG : ∀ i, i ∈ G → σ i = none) {K : AX → List Value → Vw → Prop}
    (hK : ∀ v' G' s', Keeps σ s' → OAcc w0 ety 5 O s' G' v' (y :: ((ns.zip ks).map fun z => linT f n (ps ++ [z.1]) z.2).flatten) → (∀ i, i ∈ G' → σ i = none) → K (.exit 0) [v, v', .int .i64 (ns.length : Nat), d, m, t, u, w] s') :
    pLoop (BLin w0 F ety) [v, acc, .int .i64 0, d, m, t, u, w] s0 K := by
  have hl4 := hu.le
  refine loop_rule (m := ns.length) (fun c l s => ∃ (j : Nat) (G' : List Nat) (a' : Value), c + j = ns.length ∧ Keeps σ s ∧ (∀ i, i ∈ G' → σ i = none) ∧ OAcc w0 ety 5 O s G' a' (y :: (((ns.zip ks).take j).map fun z => linT f n (ps ++ [z.1]) z.2).flatten) ∧
    l = [v, a', .int .i64 (j : Nat), d, m, t, u, w]) ?_ ⟨0, G, acc, by omega, k0, hG, by simpa using hacc, rfl⟩
  rintro c l s L ⟨j, G', a', hcj, ks1, hG', ho, rfl⟩ hL
  unfold BLin
  simp only [vget, List.getD_cons_zero, List.getD_cons_succ]
  have hu' := hu.mono ks1.le fun _ _ h => h
  have hv' := hv.mono ks1.le fun _ _ h => h
  have hw' := hw.mono ks1.le fun es x => mono_rt n _ _ es x ks1.le
  rw [hu'.len, pBin_lt, pIf_d]
  refine ⟨fun hi => ?_, fun hi => ?_⟩
  · have hx1 := List.getElem?_eq_getElem (show j < ns.length by omega)
    have hx2 := List.getElem?_eq_getElem (show j < ks.length by omega)
    generalize hxi : ns[j]'(by omega) = y1 at hx1
    generalize hxk : ks[j]'(by omega) = y2 at hx2
    have h5y := hns _ (List.mem_of_getElem? hx1)
    have hky := hks _ (List.mem_of_getElem? hx2)
    have hz : (ns.zip ks)[j]? = some (y1, y2) := by rw [List.getElem?_zip_eq_some]; exact ⟨hx1, hx2⟩
    have hcy : cntT n y2 ≤ 100000 := by
      have := sumBy_mem (f := cntT n) (List.mem_of_getElem? hx2); omega
    refine RSl.at1 hu' hx1 fun g hg hgs => ?_
    rw [hg]
    refine RSl.atp hw' hx2 fun p2 g2 hg2 => ?_
    refine spec_path hv' (by omega) (by omega) fun pv PF s2 k2 op fp => ⟨k2.stay, ?_⟩
    have o2 := ho.frame ok (k2.but_at fun b hb => (ho.dom ok b hb).2)
    refine call (op.rel (ok_str w0)) (mono_rt n _ _ _ _ k2.le hg2) hky hcy (by rw [List.length_append, sumS_snoc]; simp only [List.length_cons, List.length_nil]; omega) fun v3 G3 s3 k3 o3 f3 => ?_
    have o4 := o2.frame ok (k3.but_at fun b hb => (o2.dom ok b hb).2)
    have hlen1 : (((ns.zip ks).take j).map fun z => linT f n (ps ++ [z.1]) z.2).flatten.length ≤ 100000 := by
      have q1 : (((ns.zip ks).take j).map fun z => linT f n (ps ++ [z.1]) z.2).flatten.length ≤ sumBy (fun z : ByteArray × Tr => cntT n z.2 + 1) ((ns.zip ks).take j) := flat_sum fun z _ => linT_len f n _ _
      have q2 := sumBy_le (f := fun z : ByteArray × Tr => cntT n z.2 + 1) (xs := ns.zip ks) j
      have q3 := zip_sum (f := cntT n) (ns := ns) (ks := ks)
      omega
    have hlen2 := linT_len f n (ps ++ [y1]) y2
    refine o4.allOwn ok o3.osl (fun i hi hi' => (o2.dom ok i hi').2 (f3 i hi)) (by rw [List.length_cons]; omega) (by omega) fun v5 G5 s5 k5 o5 f5 => ?_
    rw [pBin_add (by omega)]
    have K3 := (ks1.trans k2).trans k3
    refine hL _ _ (c - 1) (by omega) ⟨j + 1, G5, v5, by omega, k5.old K3 hG', fun i hi => ?_, ?_, rfl⟩
    · rcases f5 i hi with h | h | h
      · exact hG' i h
      · exact none_old (ks1.trans k2) (f3 i h)
      · exact none_old K3 h
    · rw [flat_take hz]; exact o5
  · have e : j = ns.length := by omega
    subst e
    rw [List.take_of_length_le (by rw [List.length_zip]; omega)] at ho
    exact hK a' G' s ks1 ho hG'

/-! ### By the program's hand: a function value that is called part by part -/
end
end Go.Proofs.YtkbhjejalkbogaaGreatDoor

/- A box into which one more is put; a row that stays. -/
set_option linter.unusedVariables false
set_option linter.unusedSimpArgs false
namespace Go.Proofs.YtkbhjejalkbogaaGreatDoor
open Go Go.Av

section
variable {w0 : World} {σ : Vw} {α : Type}

end
theorem sumBy_bound {α : Type} {f : α → Nat} {c : Nat} : ∀ {xs : List α}, (∀ x, x ∈ xs → f x ≤ c) → sumBy f xs ≤ c * xs.length
  | [], _ => by simp [sumBy]
  | a :: r, h => by
    have h1 := h a (by simp)
    have h2 := sumBy_bound (xs := r) fun x hx => h x (by simp [hx])
    simp only [sumBy, List.length_cons, Nat.mul_add, Nat.mul_one]; omega
theorem lin_mem {α : Type} {f : Nat → List ByteArray → Tr → α} {y : α} : ∀ (n : Nat) (ps : List ByteArray) (x : Tr), y ∈ linT f n ps x → ∃ m qs z, y = f m qs z ∧ qs.length ≤ ps.length + n ∧ m ≤ n
  | 0, _, _, h => by simp [linT] at h
  | n + 1, ps, .mk d m t ns ks, h => by
    rw [linT_step] at h
    rcases List.mem_cons.1 h with h | h
    · exact ⟨_, _, _, h, by omega, Nat.le_refl _⟩
    · obtain ⟨l, hl, hy⟩ := List.mem_flatten.1 h
      obtain ⟨z, hz, rfl⟩ := List.mem_map.1 hl
      obtain ⟨k, qs, w, e, hq, hk⟩ := lin_mem n _ _ hy
      exact ⟨k, qs, w, e, by rw [List.length_append] at hq; simp at hq; omega, by omega⟩
end Go.Proofs.YtkbhjejalkbogaaGreatDoor

/- Texts in order; two lists of named parts in step. -/
set_option linter.unusedVariables false
set_option linter.unusedSimpArgs false
namespace Go.Proofs.YtkbhjejalkbogaaGreatDoor
open Go Go.Av

theorem bl_trans : ∀ (a b c : List UInt8), Op.bytesLess a b = true → Op.bytesLess b c = true → Op.bytesLess a c = true
  | _, [], _, h, _ => by simp [Op.bytesLess] at h
  | _, _ :: _, [], _, h => by simp [Op.bytesLess] at h
  | [], _ :: _, _ :: _, _, _ => by simp [Op.bytesLess]
  | x :: r, y :: q, z :: s, h, h' => by
    simp only [Op.bytesLess, Bool.or_eq_true, Bool.and_eq_true, decide_eq_true_eq, beq_iff_eq, UInt8.lt_iff_toNat_lt] at h h' ⊢
    rcases h with h | ⟨rfl, h⟩ <;> rcases h' with h' | ⟨rfl, h'⟩
    · left; omega
    · left; exact h
    · left; exact h'
    · right; exact ⟨rfl, bl_trans r q s h h'⟩
theorem strLt_trans {a b c : ByteArray} (h : strLt a b = true) (h' : strLt b c = true) : strLt a c = true := bl_trans _ _ _ h h'
theorem strLt_asymm {a b : ByteArray} (h : strLt a b = true) : strLt b a = false := by
  cases h' : strLt b a with
  | false => rfl
  | true => have := strLt_trans h h'; rw [strLt_irrefl] at this; cases this
def AscS (l : List ByteArray) : Prop := l.Pairwise fun a b => strLt a b = true
theorem asc_of : ∀ {l : List ByteArray}, (∀ (j : Nat) (x y : ByteArray), l[j]? = some x → l[j + 1]? = some y → strLt x y = true) → AscS l
  | [], _ => List.Pairwise.nil
  | [a], _ => List.pairwise_singleton _ _
  | a :: b :: r, h => by
    have ih : AscS (b :: r) := asc_of fun j x y hx hy => h (j + 1) x y (by simpa using hx) (by simpa using hy)
    have hab := h 0 a b rfl rfl
    refine List.pairwise_cons.2 ⟨fun z hz => ?_, ih⟩
    rcases List.mem_cons.1 hz with rfl | hz
    · exact hab
    · exact strLt_trans hab ((List.pairwise_cons.1 ih).1 z hz)
theorem asc_names {ns : List ByteArray} (h : namesP ns) : AscS ns := asc_of fun j x y hx hy => by
  have := h (j + 1) y hy
  simp only [nameAt, Bool.and_eq_true] at this
  have h2 := this.2
  simp only [prevLt, hx] at h2
  exact h2

/-! ### Sorted and compacted -/
section
variable {α : Type} [DecidableEq α] [Inhabited α]
end
/-! ### In step -/
abbrev Pr := ByteArray × Option Tr × Option Tr
def mrgK : List (ByteArray × Tr) → List (ByteArray × Tr) → List Pr
  | [], xb => xb.map fun y => (y.1, none, some y.2)
  | a :: xa, [] => (a :: xa).map fun y => (y.1, some y.2, none)
  | a :: xa, b :: xb =>
    if strLt a.1 b.1 = true then (a.1, some a.2, none) :: mrgK xa (b :: xb)
    else if strLt b.1 a.1 = true then (b.1, none, some b.2) :: mrgK (a :: xa) xb
    else (a.1, some a.2, some b.2) :: mrgK xa xb
termination_by xa xb => xa.length + xb.length

theorem sum_left {A B : Option Tr → Nat} (hB : B none = 0) : ∀ l : List (ByteArray × Tr), sumBy (fun z : Pr => A z.2.1 + B z.2.2) (l.map fun y => (y.1, some y.2, none)) = sumBy (fun y => A (some y.2)) l
  | [] => rfl
  | b :: r => by simp only [List.map_cons, sumBy, sum_left hB r, hB]; omega
theorem sum_right {A B : Option Tr → Nat} (hA : A none = 0) : ∀ l : List (ByteArray × Tr), sumBy (fun z : Pr => A z.2.1 + B z.2.2) (l.map fun y => (y.1, none, some y.2)) = sumBy (fun y => B (some y.2)) l
  | [] => rfl
  | b :: r => by simp only [List.map_cons, sumBy, sum_right hA r, hA]; omega
/-- What is summed over both. -/
theorem mrgK_sum {A B : Option Tr → Nat} (hA : A none = 0) (hB : B none = 0) : ∀ (xa xb : List (ByteArray × Tr)), sumBy (fun z : Pr => A z.2.1 + B z.2.2) (mrgK xa xb) = sumBy (fun y => A (some y.2)) xa + sumBy (fun y => B (some y.2)) xb
  | [], xb => by rw [mrgK, sum_right hA]; simp [sumBy]
  | a :: xa, [] => by rw [mrgK, sum_left hB]; simp [sumBy]
  | a :: xa, b :: xb => by
    rw [mrgK]
    split
    · have := mrgK_sum hA hB xa (b :: xb)
      simp only [sumBy, this, hB]; omega
    · split
      · have := mrgK_sum hA hB (a :: xa) xb
        simp only [sumBy, this, hA]; omega
      · have := mrgK_sum hA hB xa xb
        simp only [sumBy, this]; omega
termination_by xa xb => xa.length + xb.length
end Go.Proofs.YtkbhjejalkbogaaGreatDoor

/- slices.Sort and slices.Compact on texts in rows of our own; the names of either of two parts. -/
set_option linter.unusedVariables false
set_option linter.unusedSimpArgs false
namespace Go.Proofs.YtkbhjejalkbogaaGreatDoor
open Go Go.Av Go.RowKit Go.Sort

section
variable {w0 : World} {σ : Vw} {α : Type}

end
end Go.Proofs.YtkbhjejalkbogaaGreatDoor

/- What becomes of a part, with all below: what it is; by the reference's hand. -/
set_option linter.unusedVariables false
set_option linter.unusedSimpArgs false
set_option maxRecDepth 20000
namespace Go.Proofs.YtkbhjejalkbogaaGreatDoor
open Go Go.Av

def fNew (_ : Nat) (ps : List ByteArray) (x : Tr) : En := (ps, 2, isDir x, modeOf x, dataOf x)
def goneE (ps : List ByteArray) : En := (ps, 1, false, 0, ⟨#[]⟩)
noncomputable def partE (ps : List ByteArray) (a b : Tr) : List En :=
  (if modeOf a = modeOf b then [] else [(ps, 3, false, modeOf b, ⟨#[]⟩)]) ++ (if dataOf a = dataOf b then [] else [(ps, 4, false, 0, dataOf b)])
def partsOf (x : Tr) : List (ByteArray × Tr) := (namesOf x).zip (kidsOf x)
noncomputable def walkE : Nat → List ByteArray → Option Tr → Option Tr → List En
  | 0, _, _, _ => []
  | _ + 1, _, none, none => []
  | n + 1, ps, none, some b => linT fNew (n + 1) ps b
  | _ + 1, ps, some _, none => [goneE ps]
  | n + 1, ps, some a, some b => if isDir a = isDir b then partE ps a b ++ ((mrgK (partsOf a) (partsOf b)).map fun z => walkE n (ps ++ [z.1]) z.2.1 z.2.2).flatten else goneE ps :: linT fNew (n + 1) ps b
def cntO (n : Nat) : Option Tr → Nat
  | none => 0
  | some x => cntT n x + 1
theorem partE_len (ps : List ByteArray) (a b : Tr) : (partE ps a b).length ≤ 2 := by
  unfold partE
  split <;> split <;> simp
theorem walkE_len : ∀ (n : Nat) (ps : List ByteArray) (a b : Option Tr), (walkE n ps a b).length ≤ cntO n a + 2 * cntO n b
  | 0, _, _, _ => by simp [walkE]
  | _ + 1, _, none, none => by simp [walkE]
  | n + 1, ps, none, some b => by
    have := linT_len fNew (n + 1) ps b
    simp only [walkE, cntO]; omega
  | _ + 1, ps, some _, none => by simp [walkE, cntO]
  | n + 1, ps, some a, some b => by
    have h1 := linT_len fNew (n + 1) ps b
    simp only [walkE]
    split
    · have h2 := partE_len ps a b
      have h3 : ((mrgK (partsOf a) (partsOf b)).map fun z => walkE n (ps ++ [z.1]) z.2.1 z.2.2).flatten.length ≤ sumBy (fun z : Pr => cntO n z.2.1 + 2 * cntO n z.2.2) (mrgK (partsOf a) (partsOf b)) := flat_sum fun z _ => walkE_len n _ _ _
      rw [mrgK_sum (A := cntO n) (B := fun o => 2 * cntO n o) rfl rfl] at h3
      obtain ⟨d, m, t, ns, ks⟩ := a
      obtain ⟨d', m', t', ns', ks'⟩ := b
      have h4 := zip_sum (f := cntT n) (ns := ns) (ks := ks)
      have h5 := zip_sum (f := cntT n) (ns := ns') (ks := ks')
      have h6 : ∀ l : List (ByteArray × Tr), sumBy (fun y => 2 * cntO n (some y.2)) l = 2 * sumBy (fun y : ByteArray × Tr => cntT n y.2 + 1) l := fun l => by
        induction l with
        | nil => rfl
        | cons a r ih =>
          show 2 * (cntT n a.2 + 1) + _ = 2 * ((cntT n a.2 + 1) + _)
          rw [ih]; omega
      rw [h6] at h3
      have e1 : cntT (n + 1) (.mk d m t ns ks) = ks.length + sumBy (cntT n) ks := rfl
      have e2 : cntT (n + 1) (.mk d' m' t' ns' ks') = ks'.length + sumBy (cntT n) ks' := rfl
      simp only [cntO, partsOf, namesOf, kidsOf] at h3 ⊢
      rw [List.length_append]
      omega
    · simp only [cntO, List.length_cons]; omega

section
variable {w0 : World} {σ : Vw}

theorem fNew_own {s : Vw} {P : List Nat} {v : Value} {ps : List ByteArray} {x : Tr} {n : Nat} (ho : OStrs w0 s P v ps) (hm : -9223372036854775808 ≤ modeOf x ∧ modeOf x ≤ 9223372036854775807) (ht : (dataOf x).size ≤ 9223372036854775807) :
    OEn w0 s P [v, .int .i64 2, .bool (isDir x), .int .i64 (modeOf x), .string (dataOf x)] (fNew n ps x) := ⟨v, rfl, ho, ⟨by show _ ≤ (2 : Int) ∧ (2 : Int) ≤ _; omega, hm, ht⟩⟩
theorem gone_own {s : Vw} {P : List Nat} {v : Value} {ps : List ByteArray} (ho : OStrs w0 s P v ps) : OEn w0 s P [v, .int .i64 1, .bool false, .int .i64 0, .string ⟨#[]⟩] (goneE ps) :=
  ⟨v, rfl, ho, ⟨by show _ ≤ (1 : Int) ∧ (1 : Int) ≤ _; omega, by show _ ≤ (0 : Int) ∧ (0 : Int) ≤ _; omega, by show 0 ≤ _; omega⟩⟩

theorem spec_new (n : Nat) : Lists w0 n_spec_l3New t_impl_Entry (OEn w0) fNew n := by
  induction n with
  | zero => intro σ v es ps x R _ h; exact h.elim
  | succ n ih =>
    intro σ v es ps x R hv h hx hc hps hR
    obtain ⟨d, m, t, ns, ks⟩ := x
    have h0 := h
    have hx0 := hx
    obtain ⟨u, w, rfl, h2, h3, h4, h5⟩ := h
    obtain ⟨hm, ht, hl, hns, hks⟩ := hx
    have hcnt : cntT (n + 1) (.mk d m t ns ks) = ks.length + sumBy (cntT n) ks := rfl
    refine ac_spec_l3New ?_
    unfold vc_spec_l3New
    rw [pVal_5 rfl rfl rfl h4.one h5.one]
    simp only [cellOf_agg, List.getD_cons_zero, List.getD_cons_succ]
    refine copy_strs hv (by omega) fun v1 P s1 k1 o1 f1 => ?_
    rw [pVal1 (OSl.one' o1), pVal1 rfl, pVal1 rfl, pVal1 rfl, pVal1 rfl, pVal_5 (OSl.one' o1) rfl rfl rfl rfl]
    intro b hb1 hb2
    have hacc := OAcc.single (ok_en w0) (ety := t_impl_Entry) hb1 hb2 (fNew_own (n := n + 1) (x := .mk d m t ns ks) o1 h2 h3)
    have K3 := k1.trans (Keeps.put (r := ⟨t_impl_Entry, [v1, .int .i64 2, .bool d, .int .i64 m, .string t], 5, (0, 0)⟩) hb2)
    refine lin_loop (σ := σ) (ok_en w0) ih hv h4 h5 hl hns hks (by omega) hps hacc K3 (fun i hi => ?_) fun v' G' s' k' o' f' => ?_
    · rcases List.mem_cons.1 hi with rfl | hi
      · exact none_old k1 hb2
      · exact f1 i hi
    · exact hR v' G' s' k' o' f'

theorem spec_gone {v : Value} {ps : List ByteArray} (hv : RSl 1 RS (Av.get w0 σ) v ps) (hl : ps.length ≤ 1000000) {R : Value → Vw → Prop}
    (hR : ∀ v' G s', Keeps σ s' → OAcc w0 t_impl_Entry 5 (OEn w0) s' G v' [goneE ps] → (∀ i, i ∈ G → σ i = none) → R v' s') : AC Tryz.prog w0 n_spec_l3Gone [v] σ R := by
  refine ac_spec_l3Gone ?_
  unfold vc_spec_l3Gone
  refine copy_strs hv (by omega) fun v1 P s1 k1 o1 f1 => ?_
  rw [pVal1 (OSl.one' o1), pVal1 rfl, pVal_5 (OSl.one' o1) rfl rfl rfl rfl]
  intro b hb1 hb2
  refine hR _ _ _ (k1.trans (Keeps.put hb2)) (OAcc.single (ok_en w0) (ety := t_impl_Entry) hb1 hb2 (gone_own o1)) fun i hi => ?_
  rcases List.mem_cons.1 hi with rfl | hi
  · exact none_old k1 hb2
  · exact f1 i hi

/-- One more entry, its path copied. -/
theorem part_push {G : List Nat} {acc v : Value} {xs : List En} {ps : List ByteArray} {s : Vw} {X Y : Value} {k m : Int} {t : ByteArray} (hv : RSl 1 RS (Av.get w0 σ) v ps) (hl : ps.length ≤ 1000000) (k0 : Keeps σ s) (hG : ∀ i, i ∈ G → σ i = none)
    (ho : OAcc w0 t_impl_Entry 5 (OEn w0) s G acc xs) (hX : X.oneCell' = true) (hY : Y.oneCell' = true) (hok : enOk (ps, k, false, m, t)) (hxl : xs.length ≤ 1000000) {K : Value → Vw → Prop}
    (hK : ∀ v' G' s', Keeps σ s' → OAcc w0 t_impl_Entry 5 (OEn w0) s' G' v' (xs ++ [(ps, k, false, m, t)]) → (∀ i, i ∈ G' → σ i = none) → K v' s') :
    pNew w0 t_string [] s (fun n3 s4 => pAppendS w0 t_string 1 16 (.slice (some (Addr.mk n3 0 none)) 0 0) v s4 (fun v5 s6 => pVal false 1 v5 (pVal false 1 X (pVal false 1 Y (pVal true 5 (.agg (⟨[v5, .int .i64 k, .bool false, .int .i64 m, .string t]⟩)) ((allOne ([v5, .int .i64 k, .bool false, .int .i64 m, .string t])) ∧
      (pAppend w0 t_impl_Entry 5 64 acc 1 ([v5, .int .i64 k, .bool false, .int .i64 m, .string t]) s6 K))))))) := by
  refine copy_strs (hv.mono k0.le fun _ _ h => h) (by omega) fun v1 P s1 k1 o1 f1 => ?_
  rw [pVal1 (OSl.one' o1), pVal1 hX, pVal1 hY, pVal_5 (OSl.one' o1) rfl rfl rfl rfl]
  have ho1 := ho.frame (ok_en w0) (k1.but_at fun i hi => (ho.dom (ok_en w0) i hi).2)
  refine ho1.one (ok_en w0) (y := (ps, k, false, m, t)) ⟨v1, rfl, o1, hok⟩ (fun i hi hi' => (ho.dom (ok_en w0) i hi').2 (f1 i hi)) (by omega) (by omega) fun v' G' s' k' o' f' => ?_
  refine hK v' G' s' (k'.old (k0.trans k1) hG) o' fun i hi => ?_
  rcases f' i hi with h | h | h
  · exact hG i h
  · exact none_old k0 (f1 i h)
  · exact none_old (k0.trans k1) h

theorem spec_part {n m : Nat} {v : Value} {ps : List ByteArray} {es es' : List Value} {x y : Tr} (hv : RSl 1 RS (Av.get w0 σ) v ps) (hl : ps.length ≤ 1000000) (h : RT n (Av.get w0 σ) es x) (h' : RT m (Av.get w0 σ) es' y) {R : Value → Vw → Prop}
    (hR : ∀ v' G s', Keeps σ s' → OAcc w0 t_impl_Entry 5 (OEn w0) s' G v' (partE ps x y) → (∀ i, i ∈ G → σ i = none) → R v' s') : AC Tryz.prog w0 n_spec_l3Part [v, .agg ⟨es⟩, .agg ⟨es'⟩] σ R := by
  obtain ⟨u, w, rfl, hm, ht, _, _, hp⟩ := h.cells
  obtain ⟨u', w', rfl, hm', ht', _, _, hp'⟩ := h'.cells
  refine ac_spec_l3Part ?_
  unfold vc_spec_l3Part
  rw [hp, hp']
  simp only [cellOf_agg, List.getD_cons_zero, List.getD_cons_succ]
  intro b hb1 hb2
  have kb : Keeps σ (σ.put b ⟨t_impl_Entry, [], 0, (0, 0)⟩) := Keeps.put hb2
  have o0 : OAcc w0 t_impl_Entry 5 (OEn w0) (σ.put b ⟨t_impl_Entry, [], 0, (0, 0)⟩) [b] (.slice (some ⟨b, 0, none⟩) 0 0) [] := OAcc.new hb1
  have f0 : ∀ i, i ∈ [b] → σ i = none := fun i hi => by rw [List.mem_singleton.1 hi]; exact hb2
  have z0 : (0 : Nat) ≤ 9223372036854775807 := by omega
  rw [pBin_ne, pIf_d]
  refine ⟨fun hne => ?_, fun heq => ?_⟩
  · refine part_push (k := 3) (m := modeOf y) (t := ⟨#[]⟩) hv hl kb f0 o0 rfl rfl ⟨by show _ ≤ (3 : Int) ∧ (3 : Int) ≤ _; omega, hm', by show 0 ≤ _; omega⟩ (by simp) fun v1 G1 s1 k1 o1 f1 => ?_
    rw [List.nil_append] at o1
    rw [pBin_sne, pIf_d]
    refine ⟨fun hne2 => ?_, fun heq2 => ?_⟩
    · refine part_push (k := 4) (m := 0) (t := dataOf y) hv hl k1 f1 o1 rfl rfl ⟨by show _ ≤ (4 : Int) ∧ (4 : Int) ≤ _; omega, by show _ ≤ (0 : Int) ∧ (0 : Int) ≤ _; omega, ht'⟩ (by simp) fun v2 G2 s2 k2 o2 f2 => ?_
      have e : partE ps x y = [(ps, 3, false, modeOf y, ⟨#[]⟩)] ++ [(ps, 4, false, 0, dataOf y)] := by rw [partE, if_neg hne, if_neg hne2]
      exact hR v2 G2 s2 k2 (by rw [e]; exact o2) f2
    · have e : partE ps x y = [(ps, 3, false, modeOf y, ⟨#[]⟩)] := by rw [partE, if_neg hne, if_pos (Decidable.not_not.1 heq2)]; rfl
      exact hR v1 G1 s1 k1 (by rw [e]; exact o1) f1
  · rw [pBin_sne, pIf_d]
    have heq := Decidable.not_not.1 heq
    refine ⟨fun hne2 => ?_, fun heq2 => ?_⟩
    · refine part_push (k := 4) (m := 0) (t := dataOf y) hv hl kb f0 o0 rfl rfl ⟨by show _ ≤ (4 : Int) ∧ (4 : Int) ≤ _; omega, by show _ ≤ (0 : Int) ∧ (0 : Int) ≤ _; omega, ht'⟩ (by simp) fun v2 G2 s2 k2 o2 f2 => ?_
      have e : partE ps x y = [] ++ [(ps, 4, false, 0, dataOf y)] := by rw [partE, if_pos heq, if_neg hne2]
      exact hR v2 G2 s2 k2 (by rw [e]; exact o2) f2
    · have e : partE ps x y = [] := by rw [partE, if_pos heq, if_pos (Decidable.not_not.1 heq2)]; rfl
      exact hR _ [b] _ kb (by rw [e]; exact o0) f0

theorem zip_drop {ns : List ByteArray} {ks : List Tr} {j : Nat} {x : ByteArray} {k : Tr} (h : ns[j]? = some x) (h' : ks[j]? = some k) : (ns.zip ks).drop j = (x, k) :: (ns.zip ks).drop (j + 1) := by
  have hz : (ns.zip ks)[j]? = some (x, k) := by rw [List.getElem?_zip_eq_some]; exact ⟨h, h'⟩
  obtain ⟨hlt, e⟩ := List.getElem?_eq_some_iff.1 hz
  rw [List.drop_eq_getElem_cons hlt, e]
theorem mrgK_nil (l : List (ByteArray × Tr)) : mrgK l [] = l.map fun y => (y.1, some y.2, none) := by cases l <;> simp [mrgK]
theorem mrgK_gone {a : ByteArray × Tr} {xa xb : List (ByteArray × Tr)} (h : ∀ b r, xb = b :: r → strLt a.1 b.1 = true) : mrgK (a :: xa) xb = (a.1, some a.2, none) :: mrgK xa xb := by
  cases xb with
  | nil => rw [mrgK_nil, mrgK_nil]; rfl
  | cons b r => rw [mrgK, if_pos (h b r rfl)]
theorem mrgK_new {b : ByteArray × Tr} {xa xb : List (ByteArray × Tr)} (h : ∀ a r, xa = a :: r → strLt b.1 a.1 = true) : mrgK xa (b :: xb) = (b.1, none, some b.2) :: mrgK xa xb := by
  cases xa with
  | nil => rw [mrgK, mrgK]; rfl
  | cons a r => rw [mrgK, if_neg (by rw [strLt_asymm (h a r rfl)]; simp), if_pos (h a r rfl)]
theorem mrgK_both {a b : ByteArray × Tr} {xa xb : List (ByteArray × Tr)} (h : strLt a.1 b.1 = false) (h' : strLt b.1 a.1 = false) : mrgK (a :: xa) (b :: xb) = (a.1, some a.2, some b.2) :: mrgK xa xb := by
  rw [mrgK, if_neg (by rw [h]; simp), if_neg (by rw [h']; simp)]

set_option maxHeartbeats 4000000 in
theorem spec_walk : ∀ (n : Nat) {σ : Vw} {v : Value} {es es' : List Value} {ps : List ByteArray} {x y : Tr} {R : Value → Vw → Prop}, RSl 1 RS (Av.get w0 σ) v ps → RT n (Av.get w0 σ) es x → RT n (Av.get w0 σ) es' y → shortT n x → shortT n y → cntT n x ≤ 100000 → cntT n y ≤ 100000 →
    ps.length + sumS ps + 6 * n ≤ 1000000 → (∀ v' G s', Keeps σ s' → OAcc w0 t_impl_Entry 5 (OEn w0) s' G v' (walkE n ps (some x) (some y)) → (∀ i, i ∈ G → σ i = none) → R v' s') →
    AC Tryz.prog w0 n_spec_l3Walk [v, .agg ⟨es⟩, .agg ⟨es'⟩] σ R := by
  intro n
  induction n with
  | zero => intro σ v es es' ps x y R _ h; exact h.elim
  | succ n ih =>
    intro σ v es es' ps x y R hv h h' hx hx' hc hc' hps hR
    have hwl := walkE_len (n + 1) ps (some x) (some y)
    obtain ⟨d, m, t, ns, ks⟩ := x
    obtain ⟨d', m', t', ns', ks'⟩ := y
    have h0 := h
    have h0' := h'
    have hx0' := hx'
    obtain ⟨u, w, rfl, h2, h3, h4, h5⟩ := h
    obtain ⟨u', w', rfl, h2', h3', h4', h5'⟩ := h'
    obtain ⟨hm, ht, hl, hns, hks⟩ := hx
    obtain ⟨hm', ht', hl', hns', hks'⟩ := hx'
    have hcnt : cntT (n + 1) (.mk d m t ns ks) = ks.length + sumBy (cntT n) ks := rfl
    have hcnt' : cntT (n + 1) (.mk d' m' t' ns' ks') = ks'.length + sumBy (cntT n) ks' := rfl
    refine ac_spec_l3Walk ?_
    unfold vc_spec_l3Walk cs_spec_l3Walk_2 cs_spec_l3Walk_1 cs_spec_l3Walk_3
    rw [pVal_5 rfl rfl rfl h4.one h5.one, pVal_5 rfl rfl rfl h4'.one h5'.one]
    simp only [cellOf_agg, List.getD_cons_zero, List.getD_cons_succ]
    have eb : ∀ K : Value → Prop, pBin Tryz.prog 4 .neq (.bool d) (.bool d') K ↔ K (.bool !(d == d')) := fun K => pBin_b (by kernel_rfl) rfl
    rw [eb, pIf_b]
    refine ⟨fun hne => ?_, fun heq => ?_⟩
    · have hne' : ¬ d = d' := by simpa using hne
      have ew : walkE (n + 1) ps (some (.mk d m t ns ks)) (some (.mk d' m' t' ns' ks')) = [goneE ps] ++ linT fNew (n + 1) ps (.mk d' m' t' ns' ks') := by
        simp only [walkE]; rw [if_neg (show ¬ isDir (.mk d m t ns ks) = isDir (.mk d' m' t' ns' ks') from hne')]; rfl
      rw [ew] at hR hwl
      rw [List.length_append] at hwl
      refine spec_gone hv (by omega) fun v1 G1 s1 k1 o1 f1 => ?_
      refine spec_new (n + 1) (hv.mono k1.le fun _ _ h => h) (mono_rt _ _ _ _ _ k1.le h0') hx0' hc' hps fun v2 G2 s2 k2 o2 f2 => ?_
      have o1' := o1.frame (ok_en w0) (k2.but_at fun i hi => (o1.dom (ok_en w0) i hi).2)
      refine o1'.allOwn (ok_en w0) o2.osl (fun i hi hi' => (o1.dom (ok_en w0) i hi').2 (f2 i hi)) (by simp only [cntO] at hwl; omega) (by omega) fun v3 G3 s3 k3 o3 f3 => ?_
      refine hR v3 G3 s3 (k3.old (k1.trans k2) f1) o3 fun i hi => ?_
      rcases f3 i hi with h | h | h
      · exact f1 i h
      · exact none_old k1 (f2 i h)
      · exact none_old (k1.trans k2) h
    have heq' : d = d' := by simpa using heq
    have ew : walkE (n + 1) ps (some (.mk d m t ns ks)) (some (.mk d' m' t' ns' ks')) = partE ps (.mk d m t ns ks) (.mk d' m' t' ns' ks') ++ ((mrgK (ns.zip ks) (ns'.zip ks')).map fun z => walkE n (ps ++ [z.1]) z.2.1 z.2.2).flatten := by
      simp only [walkE]; rw [if_pos (show isDir (.mk d m t ns ks) = isDir (.mk d' m' t' ns' ks') from heq')]; rfl
    rw [ew] at hR hwl
    generalize hpe : partE ps (.mk d m t ns ks) (.mk d' m' t' ns' ks') = pe at hR hwl
    refine spec_part hv (by omega) h0 h0' fun v1 G1 s1 k1 o1 f1 => ?_
    rw [hpe] at o1
    have hl4 := h4.le
    have hl4' := h4'.le
    -- what is left to do
    generalize hW : (fun z : Pr => walkE n (ps ++ [z.1]) z.2.1 z.2.2) = W at hR hwl
    refine loop_rule (m := ns.length + ns'.length) (fun c l st => ∃ (i k : Nat) (G : List Nat) (acc : Value) (out : List En), ns.length + ns'.length ≤ c + i + k ∧ i ≤ ns.length ∧ k ≤ ns'.length ∧ Keeps σ st ∧ (∀ j, j ∈ G → σ j = none) ∧ OAcc w0 t_impl_Entry 5 (OEn w0) st G acc out ∧
        out ++ ((mrgK ((ns.zip ks).drop i) ((ns'.zip ks').drop k)).map W).flatten = pe ++ ((mrgK (ns.zip ks) (ns'.zip ks')).map W).flatten ∧
        l = [v, acc, .int .i64 (i : Nat), .int .i64 (k : Nat), .bool d, .int .i64 m, .string t, u, w, .bool d', .int .i64 m', .string t', u', w']) ?_
      ⟨0, 0, G1, v1, pe, by omega, by omega, by omega, k1, f1, o1, by simp, rfl⟩
    rintro c l st L ⟨i, k, G, acc, out, hcik, hi, hk, ks0, hG, ho, hout, rfl⟩ hL
    simp only [vget, List.getD_cons_zero, List.getD_cons_succ]
    have hv' := hv.mono ks0.le fun _ _ h => h
    have hu := h4.mono ks0.le fun _ _ h => h
    have hu' := h4'.mono ks0.le fun _ _ h => h
    have hw := h5.mono ks0.le fun es x => mono_rt n _ _ es x ks0.le
    have hw' := h5'.mono ks0.le fun es x => mono_rt n _ _ es x ks0.le
    have hoL : out.length + ((mrgK ((ns.zip ks).drop i) ((ns'.zip ks').drop k)).map W).flatten.length ≤ 900000 := by
      have := congrArg List.length hout
      rw [List.length_append, List.length_append] at this
      rw [List.length_append] at hwl
      simp only [cntO] at hwl
      omega
    -- a part that is gone
    have hGo : ∀ (xn : ByteArray) (xk : Tr), ns[i]? = some xn → ks[i]? = some xk → (∀ b r, (ns'.zip ks').drop k = b :: r → strLt xn b.1 = true) →
        pIndexAddr 1 u (.int .i64 (i : Nat)) (fun v16 => pLoad w0 1 v16 st (fun g17 => AC Tryz.prog w0 n_spec_l3Path [v, g17 0] st (fun v18 s19 => AC Tryz.prog w0 n_spec_l3Gone [v18] s19 (fun v20 s21 => pAppendS w0 t_impl_Entry 5 64 acc v20 s21 (fun v22 s23 => pBin Tryz.prog 3 .add (.int .i64 (i : Nat)) (.int .i64 1) (fun v24 =>
          L [v, v22, v24, .int .i64 (k : Nat), .bool d, .int .i64 m, .string t, u, w, .bool d', .int .i64 m', .string t', u', w'] s23)))))) := by
      intro xn xk hxn hxk hlt
      have hil := (List.getElem?_eq_some_iff.1 hxn).1
      have h5y := hns _ (List.mem_of_getElem? hxn)
      refine RSl.at1 hu hxn fun g hg hgs => ?_
      rw [hg]
      refine spec_path hv' (by omega) (by omega) fun pv PF s2 k2 op fp => ?_
      refine spec_gone (op.rel (ok_str w0)) (by rw [List.length_append]; simp only [List.length_cons, List.length_nil]; omega) fun v3 G3 s3 k3 o3 f3 => ?_
      have K23 := k2.trans k3
      have o4 := ho.frame (ok_en w0) (K23.but_at fun b hb => (ho.dom (ok_en w0) b hb).2)
      have hmk : mrgK ((ns.zip ks).drop i) ((ns'.zip ks').drop k) = (xn, some xk, none) :: mrgK ((ns.zip ks).drop (i + 1)) ((ns'.zip ks').drop k) := by
        rw [zip_drop hxn hxk, mrgK_gone hlt]
      have hn : n ≠ 0 := fun e => by subst e; exact hks _ (List.mem_of_getElem? hxk)
      have hw1 : W (xn, some xk, none) = [goneE (ps ++ [xn])] := by
        obtain ⟨n', rfl⟩ := Nat.exists_eq_succ_of_ne_zero hn
        rw [← hW]; simp only [walkE]
      rw [hmk, List.map_cons, List.flatten_cons, hw1] at hout hoL
      rw [List.length_append] at hoL
      refine o4.allOwn (ok_en w0) o3.osl (fun j hj hj' => (ho.dom (ok_en w0) j hj').2 (none_old k2 (f3 j hj))) (by simp only [List.length_cons, List.length_nil] at hoL ⊢; omega) (by omega) fun v5 G5 s5 k5 o5 f5 => ?_
      rw [pBin_add (by omega)]
      refine hL _ _ (c - 1) (by omega) ⟨i + 1, k, G5, v5, _, by omega, by omega, hk, k5.old (ks0.trans K23) hG, fun j hj => ?_, o5, by rw [List.append_assoc]; exact hout, by simp⟩
      rcases f5 j hj with h | h | h
      · exact hG j h
      · exact none_old (ks0.trans k2) (f3 j h)
      · exact none_old (ks0.trans K23) h
    -- a part that is new
    have hNe : ∀ (yn : ByteArray) (yk : Tr), ns'[k]? = some yn → ks'[k]? = some yk → (∀ a r, (ns.zip ks).drop i = a :: r → strLt yn a.1 = true) →
        pIndexAddr 1 u' (.int .i64 (k : Nat)) (fun v43 => pLoad w0 1 v43 st (fun g44 => pIndexAddr 5 w' (.int .i64 (k : Nat)) (fun v45 => pLoad w0 5 v45 st (fun g46 => AC Tryz.prog w0 n_spec_l3Path [v, g44 0] st (fun v47 s48 => (Stay w0 st s48 v45 5) ∧ (AC Tryz.prog w0 n_spec_l3New ([v47, .agg (⟨[g46 0, g46 1, g46 2, g46 3, g46 4]⟩)]) s48 (fun v49 s50 => pAppendS w0 t_impl_Entry 5 64 acc v49 s50 (fun v51 s52 => pBin Tryz.prog 3 .add (.int .i64 (k : Nat)) (.int .i64 1) (fun v53 =>
          L [v, v51, .int .i64 (i : Nat), v53, .bool d, .int .i64 m, .string t, u, w, .bool d', .int .i64 m', .string t', u', w'] s52))))))))) := by
      intro yn yk hyn hyk hlt
      have hkl := (List.getElem?_eq_some_iff.1 hyn).1
      have h5y := hns' _ (List.mem_of_getElem? hyn)
      have hky := hks' _ (List.mem_of_getElem? hyk)
      have hcy : cntT n yk ≤ 100000 := by
        have := sumBy_mem (f := cntT n) (List.mem_of_getElem? hyk); omega
      refine RSl.at1 hu' hyn fun g hg hgs => ?_
      rw [hg]
      refine RSl.atp hw' hyk fun p2 g2 hg2 => ?_
      refine spec_path hv' (by omega) (by omega) fun pv PF s2 k2 op fp => ⟨k2.stay, ?_⟩
      have hmk : mrgK ((ns.zip ks).drop i) ((ns'.zip ks').drop k) = (yn, none, some yk) :: mrgK ((ns.zip ks).drop i) ((ns'.zip ks').drop (k + 1)) := by
        rw [zip_drop hyn hyk, mrgK_new hlt]
      have hn : n ≠ 0 := fun e => by subst e; exact hky
      have hw1 : W (yn, none, some yk) = linT fNew n (ps ++ [yn]) yk := by
        obtain ⟨n', rfl⟩ := Nat.exists_eq_succ_of_ne_zero hn
        rw [← hW]; simp only [walkE]
      rw [hmk, List.map_cons, List.flatten_cons, hw1] at hout hoL
      rw [List.length_append] at hoL
      refine spec_new n (op.rel (ok_str w0)) (mono_rt _ _ _ _ _ k2.le hg2) hky hcy (by rw [List.length_append, sumS_snoc]; simp only [List.length_cons, List.length_nil]; omega) fun v3 G3 s3 k3 o3 f3 => ?_
      have K23 := k2.trans k3
      have o4 := ho.frame (ok_en w0) (K23.but_at fun b hb => (ho.dom (ok_en w0) b hb).2)
      refine o4.allOwn (ok_en w0) o3.osl (fun j hj hj' => (ho.dom (ok_en w0) j hj').2 (none_old k2 (f3 j hj))) (by omega) (by omega) fun v5 G5 s5 k5 o5 f5 => ?_
      rw [pBin_add (by omega)]
      refine hL _ _ (c - 1) (by omega) ⟨i, k + 1, G5, v5, _, by omega, hi, by omega, k5.old (ks0.trans K23) hG, fun j hj => ?_, o5, by rw [List.append_assoc]; exact hout, by simp⟩
      rcases f5 j hj with h | h | h
      · exact hG j h
      · exact none_old (ks0.trans k2) (f3 j h)
      · exact none_old (ks0.trans K23) h
    rw [hu.len, pBin_lt, pIf_d]
    refine ⟨fun hia => ?_, fun hia => ?_⟩
    · have hxn := List.getElem?_eq_getElem (show i < ns.length by omega)
      have hxk := List.getElem?_eq_getElem (show i < ks.length by omega)
      generalize ns[i]'(by omega) = xn at hxn
      generalize ks[i]'(by omega) = xk at hxk
      rw [hu'.len, pBin_ge, pIf_d]
      refine ⟨fun hkb => ?_, fun hkb => ?_⟩
      · refine hGo xn xk hxn hxk fun b r e => ?_
        rw [List.drop_of_length_le (by rw [List.length_zip]; omega)] at e
        cases e
      have hyn := List.getElem?_eq_getElem (show k < ns'.length by omega)
      have hyk := List.getElem?_eq_getElem (show k < ks'.length by omega)
      generalize ns'[k]'(by omega) = yn at hyn
      generalize ks'[k]'(by omega) = yk at hyk
      rw [hu.len, pBin_lt, pIf_d]
      refine ⟨fun _ => ?_, fun h => absurd hia h⟩
      refine RSl.at1 hu hxn fun g hg hgs => ?_
      refine RSl.at1 hu' hyn fun g' hg' hgs' => ?_
      rw [hg, hg', pBin_slt, pIf_b]
      refine ⟨fun hlt => ?_, fun hnlt => ?_⟩
      · refine hGo xn xk hxn hxk fun b r e => ?_
        rw [zip_drop hyn hyk] at e
        cases e; exact hlt
      rw [hu.len, pBin_ge, pIf_d]
      refine ⟨fun h => by omega, fun _ => ?_⟩
      refine RSl.at1 hu' hyn fun g2 hg2 hgs2 => ?_
      refine RSl.at1 hu hxn fun g3 hg3 hgs3 => ?_
      rw [hg2, hg3, pBin_slt, pIf_b]
      refine ⟨fun hlt => ?_, fun hnlt2 => ?_⟩
      · refine hNe yn yk hyn hyk fun a r e => ?_
        rw [zip_drop hxn hxk] at e
        cases e; exact hlt
      -- in both
      have h5y := hns _ (List.mem_of_getElem? hxn)
      have hkx := hks _ (List.mem_of_getElem? hxk)
      have hky := hks' _ (List.mem_of_getElem? hyk)
      have hcx : cntT n xk ≤ 100000 := by
        have := sumBy_mem (f := cntT n) (List.mem_of_getElem? hxk); omega
      have hcy : cntT n yk ≤ 100000 := by
        have := sumBy_mem (f := cntT n) (List.mem_of_getElem? hyk); omega
      refine RSl.at1 hu hxn fun g hg hgs => ?_
      rw [hg]
      refine RSl.atp hw hxk fun p1 g1 hg1 => ?_
      refine RSl.atp hw' hyk fun p2 g2 hg2 => ?_
      refine spec_path hv' (by omega) (by omega) fun pv PF s2 k2 op fp => ⟨k2.stay, k2.stay, ?_⟩
      have hmk : mrgK ((ns.zip ks).drop i) ((ns'.zip ks').drop k) = (xn, some xk, some yk) :: mrgK ((ns.zip ks).drop (i + 1)) ((ns'.zip ks').drop (k + 1)) := by
        rw [zip_drop hxn hxk, zip_drop hyn hyk, mrgK_both hnlt hnlt2]
      have hw1 : W (xn, some xk, some yk) = walkE n (ps ++ [xn]) (some xk) (some yk) := by rw [← hW]
      rw [hmk, List.map_cons, List.flatten_cons, hw1] at hout hoL
      rw [List.length_append] at hoL
      refine ih (op.rel (ok_str w0)) (mono_rt _ _ _ _ _ k2.le hg1) (mono_rt _ _ _ _ _ k2.le hg2) hkx hky hcx hcy (by rw [List.length_append, sumS_snoc]; simp only [List.length_cons, List.length_nil]; omega) fun v3 G3 s3 k3 o3 f3 => ?_
      have K23 := k2.trans k3
      have o4 := ho.frame (ok_en w0) (K23.but_at fun b hb => (ho.dom (ok_en w0) b hb).2)
      refine o4.allOwn (ok_en w0) o3.osl (fun j hj hj' => (ho.dom (ok_en w0) j hj').2 (none_old k2 (f3 j hj))) (by omega) (by omega) fun v5 G5 s5 k5 o5 f5 => ?_
      rw [pBin_add (by omega), pBin_add (by omega)]
      refine hL _ _ (c - 1) (by omega) ⟨i + 1, k + 1, G5, v5, _, by omega, by omega, by omega, k5.old (ks0.trans K23) hG, fun j hj => ?_, o5, by rw [List.append_assoc]; exact hout, by simp⟩
      rcases f5 j hj with h | h | h
      · exact hG j h
      · exact none_old (ks0.trans k2) (f3 j h)
      · exact none_old (ks0.trans K23) h
    · rw [hu'.len, pBin_lt, pIf_d]
      refine ⟨fun hkb => ?_, fun hkb => ?_⟩
      · have hyn := List.getElem?_eq_getElem (show k < ns'.length by omega)
        have hyk := List.getElem?_eq_getElem (show k < ks'.length by omega)
        generalize ns'[k]'(by omega) = yn at hyn
        generalize ks'[k]'(by omega) = yk at hyk
        rw [hu'.len, pBin_ge, pIf_d]
        refine ⟨fun h => by omega, fun _ => ?_⟩
        rw [hu.len, pBin_lt, pIf_d]
        refine ⟨fun h => absurd h hia, fun _ => ?_⟩
        rw [hu.len, pBin_ge, pIf_d]
        refine ⟨fun _ => ?_, fun h => by omega⟩
        refine hNe yn yk hyn hyk fun a r e => ?_
        rw [List.drop_of_length_le (by rw [List.length_zip]; omega)] at e
        cases e
      · rw [List.drop_of_length_le (by rw [List.length_zip]; omega), List.drop_of_length_le (by rw [List.length_zip]; omega), mrgK] at hout
        simp only [List.map_nil, List.flatten_nil, List.append_nil] at hout
        exact hR acc G st ks0 (by rw [← hout]; exact ho) hG
end
end Go.Proofs.YtkbhjejalkbogaaGreatDoor

/- What becomes of a part, with all below: by the program's hand. -/
set_option linter.unusedVariables false
set_option linter.unusedSimpArgs false
set_option maxRecDepth 20000
namespace Go.Proofs.YtkbhjejalkbogaaGreatDoor
open Go Go.Av

/-- The names ascend, all the way down. -/
def ascT : Nat → Tr → Prop
  | 0, _ => True
  | n + 1, .mk d m t ns ks => AscS ns ∧ ∀ k, k ∈ ks → ascT n k
theorem sound_asc : ∀ (m n : Nat) (x : Tr) (k : Int), soundB n x k = true → ascT m x
  | 0, _, _, _, _ => trivial
  | m + 1, 0, x, k, h => by simp [soundB] at h
  | m + 1, n + 1, .mk d mo t ns ks, k, h => by
    simp only [soundB, plainB, Bool.and_eq_true, decide_eq_true_eq] at h
    refine ⟨?_, fun c hc => ?_⟩
    · cases d
      · have := h.1.2.2
        simp at this
        rw [this.2]; exact List.Pairwise.nil
      · have := h.1.2.2
        simp at this
        exact asc_names this.1
    · obtain ⟨j, hj⟩ := List.getElem?_of_mem hc
      exact sound_asc m n c _ (allB_iff.1 h.2.2 j c hj)
theorem sound_down5 : ∀ (m n : Nat) (x : Tr) (k : Int), soundB n x k = true → 5 ≤ k + (m : Int) → (∀ rd es, RT n rd es x → RT m rd es x) ∧ shortT m x ∧ cntT m x ≤ cntT n x
  | m, 0, x, k, h, _ => by simp [soundB] at h
  | 0, n + 1, .mk d mo t ns ks, k, h, hk => by
    simp only [soundB, Bool.and_eq_true, decide_eq_true_eq] at h
    exact absurd h.2.1 (by omega)
  | m + 1, n + 1, .mk d mo t ns ks, k, h, hk => by
    have hs := sound_short (n + 1) _ k h
    simp only [soundB, Bool.and_eq_true, decide_eq_true_eq] at h
    have ih : ∀ y, y ∈ ks → (∀ rd es, RT n rd es y → RT m rd es y) ∧ shortT m y ∧ cntT m y ≤ cntT n y := fun y hy => by
      obtain ⟨j, hj⟩ := List.getElem?_of_mem hy
      exact sound_down5 m n y (k + 1) (allB_iff.1 h.2.2 j y hj) (by omega)
    refine ⟨fun rd es hr => ?_, ⟨hs.1, hs.2.1, hs.2.2.1, hs.2.2.2.1, fun y hy => (ih y hy).2.1⟩, ?_⟩
    · obtain ⟨u, w, h1, h2, h3, h4, A, cap, e1, e2, e3⟩ := hr
      refine ⟨u, w, h1, h2, h3, h4, A, cap, e1, e2, fun j y hj => ?_⟩
      obtain ⟨a, es', q1, q2, q3, q4⟩ := e3 j y hj
      exact ⟨a, es', q1, q2, q3, (ih y (List.mem_of_getElem? hj)).1 _ _ q4⟩
    · have := sumBy_mono (f := cntT m) (g := cntT n) (xs := ks) fun y hy => (ih y hy).2.2
      show ks.length + sumBy (cntT m) ks ≤ ks.length + sumBy (cntT n) ks
      omega
theorem short_wf : ∀ (n : Nat) (x : Tr), shortT n x → wfT n x
  | 0, _, _ => trivial
  | n + 1, .mk d m t ns ks, h => ⟨h.2.2.1, fun k hk => short_wf n k (h.2.2.2.2 k hk)⟩
section
variable {w0 : World} {σ : Vw}

end
end Go.Proofs.YtkbhjejalkbogaaGreatDoor

/- A call done in a tree by the reference's hand: that it gives a tree, and not too large a one. -/
set_option linter.unusedVariables false
set_option linter.unusedSimpArgs false
namespace Go.Proofs.YtkbhjejalkbogaaGreatDoor
open Go Go.Av

theorem short_sz : ∀ (n : Nat) (x : Tr), shortT n x → szT n x ≤ 24 + 31 * cntT n x
  | 0, _, h => h.elim
  | n + 1, .mk d m t ns ks, h => by
    obtain ⟨_, h2, h3, h4, h5⟩ := h
    have hk : ∀ l : List Tr, (∀ k, k ∈ l → shortT n k) → sumBy (szT n) l ≤ 24 * l.length + 31 * sumBy (cntT n) l := fun l hl => by
      induction l with
      | nil => simp [sumBy]
      | cons a r ih =>
        have := short_sz n a (hl a List.mem_cons_self)
        have := ih fun k hk => hl k (List.mem_cons_of_mem _ hk)
        simp only [sumBy, List.length_cons]; omega
    have hn : ∀ l : List ByteArray, (∀ s, s ∈ l → s.size ≤ 5) → sumS l ≤ 5 * l.length := fun l hl => by
      induction l with
      | nil => simp [sumS]
      | cons a r ih =>
        have := hl a List.mem_cons_self
        have := ih fun k hk => hl k (List.mem_cons_of_mem _ hk)
        simp only [sumS, List.length_cons]; omega
    have h6 := hk ks h5
    have h7 := hn ns h4
    show t.size + (ns.length + sumS ns) + (ks.length + sumBy (szT n) ks) ≤ 24 + 31 * (ks.length + sumBy (cntT n) ks)
    omega
theorem ok_smallT {n : Nat} {rd : Addr → Option Value} {es : List Value} {x : Tr} (h : RT n rd es x) (hok : treeOk n x = true) : RT 5 rd es x ∧ wfT 5 x ∧ szT 5 x ≤ 1000 := by
  simp only [treeOk, Bool.and_eq_true, decide_eq_true_eq] at hok
  obtain ⟨h1, h2, h3⟩ := sound_down5 5 n x 0 hok.2.1 (by omega)
  have := short_sz 5 x h2
  have := hok.2.2
  exact ⟨h1 _ _ h, short_wf 5 x h2, by omega⟩
theorem RT.data {n : Nat} {rd : Addr → Option Value} {a b u w : Value} {s t : ByteArray} {x : Tr} (h : RT n rd [a, b, .string s, u, w] x) (ht : t.size ≤ 9223372036854775807) : ∃ y, RT n rd [a, b, .string t, u, w] y ∧ (wfT n x → wfT n y) ∧ szT n y + s.size = szT n x + t.size := by
  obtain _ | n := n
  · exact h.elim
  · obtain ⟨d, m, t0, ns, ks⟩ := x
    obtain ⟨u', w', e, h2, h3, h4, h5⟩ := h
    simp only [List.cons.injEq, and_true, Value.string.injEq] at e
    obtain ⟨rfl, rfl, rfl, rfl, rfl⟩ := e
    refine ⟨.mk d m t ns ks, ⟨_, _, rfl, h2, ht, h4, h5⟩, fun h => h, ?_⟩
    show t.size + (ns.length + sumS ns) + (ks.length + sumBy (szT n) ks) + s.size = s.size + (ns.length + sumS ns) + (ks.length + sumBy (szT n) ks) + t.size
    omega
theorem RT.mode {n : Nat} {rd : Addr → Option Value} {a b u w c : Value} {k : Int} {x : Tr} (h : RT n rd [a, b, c, u, w] x) (hk : -9223372036854775808 ≤ k ∧ k ≤ 9223372036854775807) : ∃ y, RT n rd [a, .int .i64 k, c, u, w] y ∧ (wfT n x → wfT n y) ∧ szT n y = szT n x := by
  obtain _ | n := n
  · exact h.elim
  · obtain ⟨d, m, t0, ns, ks⟩ := x
    obtain ⟨u', w', e, h2, h3, h4, h5⟩ := h
    simp only [List.cons.injEq, and_true] at e
    obtain ⟨rfl, rfl, rfl, rfl, rfl⟩ := e
    exact ⟨.mk d k t0 ns ks, ⟨_, _, rfl, hk, h3, h4, h5⟩, fun h => h, rfl⟩
theorem wf_zero : ∀ n, wfT n zeroT
  | 0 => trivial
  | n + 1 => ⟨rfl, fun k hk => by cases hk⟩
theorem pathB_ok {xs : List ByteArray} (h : pathB xs = true) : xs ≠ [] ∧ ∀ s, s ∈ xs → s.size ≤ 5 := by
  simp only [pathB, Bool.and_eq_true, inB, decide_eq_true_eq] at h
  refine ⟨fun e => by rw [e] at h; simp at h, fun s hs => ?_⟩
  obtain ⟨j, hj⟩ := List.getElem?_of_mem hs
  have := allNames_iff.1 h.1 j s hj
  simp only [nameOk, Bool.and_eq_true, inB, decide_eq_true_eq] at this
  omega
theorem callOk_facts {c : Cl} (h : callOk c = true) : (c.2.1 ≠ [] ∧ ∀ s, s ∈ c.2.1 → s.size ≤ 5) ∧ (c.1 = 5 → c.2.2.1 ≠ [] ∧ ∀ s, s ∈ c.2.2.1 → s.size ≤ 5) ∧ ((c.1 = 2 ∨ c.1 = 3) → 0 ≤ c.2.2.2.1 ∧ c.2.2.2.1 ≤ 24) := by
  simp only [callOk, Bool.and_eq_true] at h
  obtain ⟨_, h1, h2⟩ := h
  refine ⟨pathB_ok h1, fun e => ?_, fun e => ?_⟩
  · rw [if_neg (by omega), if_neg (by omega), if_pos e] at h2
    exact pathB_ok h2
  · rw [if_neg (by omega), if_pos e] at h2
    simpa [inB] using h2

section
variable {w0 : World} {σ : Vw}

/-- What such a step gives. -/
abbrev OutD (w0 : World) (σ : Vw) (R : Value → Vw → Prop) : Prop := ∀ es y σ' (k : Int), Keeps σ σ' → RT 11 (Av.get w0 σ') es y → szT 11 y ≤ 40000000 → (0 ≤ k ∧ k ≤ 7) → R (.tuple ⟨[.agg ⟨es⟩, .int .i64 k]⟩) σ'

theorem spec_l2Parent {n : Nat} {es : List Value} {u : Value} {x : Tr} {ps : List ByteArray} (h : RT n (Av.get w0 σ) es x) (hw : wfT n x) (hu : RSl 1 RS (Av.get w0 σ) u ps) (hne : ps ≠ []) {R : Value → Vw → Prop} (hR : ∀ k : Int, 0 ≤ k ∧ k ≤ 7 → R (.int .i64 k) σ) : AC Tryz.prog w0 n_spec_l2Parent [.agg ⟨es⟩, u] σ R := by
  refine ac_spec_l2Parent ?_
  unfold vc_spec_l2Parent
  have hl := hu.le
  have hpos := List.length_pos_iff.2 hne
  have h0 := h
  obtain ⟨a, b, c, d, e, rfl, hp⟩ := h.shape
  rw [hp, hu.len, pBin_sub (by omega), show ((ps.length : Nat) : Int) - 1 = ((ps.length - 1 : Nat) : Int) by omega]
  refine RSl.take hu (by omega) fun v' hv' => ?_
  simp only [cellOf_agg, List.getD_cons_zero, List.getD_cons_succ]
  refine spec_At _ h0 hw hv' fun es' hy => ?_
  obtain ⟨u', w', rfl, _, _, _, _, hp'⟩ := hy.cells
  rw [pExtract_s rfl, pExtract_s rfl, hp', pUn_not, pIf_b]
  refine ⟨fun _ => hR 3 (by omega), fun _ => ?_⟩
  simp only [cellOf_agg, List.getD_cons_zero, List.getD_cons_succ]
  rw [pUn_not, pIf_b]
  exact ⟨fun _ => hR 4 (by omega), fun _ => hR 0 (by omega)⟩

theorem spec_l2Fits {n m : Nat} {es et : List Value} {x t : Tr} (h : RT n (Av.get w0 σ) es x) (ht : RT m (Av.get w0 σ) et t) (hc : cntT n x ≤ 1000000000000) {R : Value → Vw → Prop} (h6 : R (.tuple ⟨[.agg ⟨et⟩, .int .i64 6]⟩) σ) (h0 : R (.tuple ⟨[.agg ⟨es⟩, .int .i64 0]⟩) σ) : AC Tryz.prog w0 n_spec_l2Fits [.agg ⟨es⟩, .agg ⟨et⟩] σ R := by
  refine ac_spec_l2Fits ?_
  unfold vc_spec_l2Fits
  have h1 := h
  obtain ⟨a, b, c, d, e, rfl, hp⟩ := h.shape
  obtain ⟨a', b', c', d', e', rfl, hp'⟩ := ht.shape
  rw [hp, hp']
  simp only [cellOf_agg, List.getD_cons_zero, List.getD_cons_succ]
  refine spec_TreeOk h1 hc ?_
  rw [pUn_not, pIf_b, hp, hp']
  exact ⟨fun _ => h6, fun _ => h0⟩

theorem set_fits {n : Nat} {et ez : List Value} {u : Value} {t z tb : Tr} {eb : List Value} {ps : List ByteArray} (hn : n ≤ 6) (ht : RT n (Av.get w0 σ) et t) (hw : wfT n t) (hsz : szT n t ≤ 10000) (hb : RT 5 (Av.get w0 σ) eb tb) (hbs : szT 5 tb ≤ 1000) (hu : RSl 1 RS (Av.get w0 σ) u ps) (hne : ps ≠ []) (hps : ∀ s, s ∈ ps → s.size ≤ 5)
    (hz : RT 5 (Av.get w0 σ) ez z) (hwz : wfT 5 z) (hzs : szT 5 z ≤ 3000) {R : Value → Vw → Prop} (hR : OutD w0 σ R) :
    AC Tryz.prog w0 n_spec_l2Set [.agg ⟨et⟩, u, .agg ⟨ez⟩, .bool false] σ (fun v12 s13 => AC Tryz.prog w0 n_spec_l2Fits [v12, .agg ⟨eb⟩] s13 (fun v14 s15 => pExtract v14 0 (fun v16 => pExtract v14 1 (fun v17 => pVal true 5 v16 (R (.tuple (⟨[.agg (⟨[cellOf v16 0, cellOf v16 1, cellOf v16 2, cellOf v16 3, cellOf v16 4]⟩), v17]⟩)) s15))))) := by
  have hmul : (szT n t + 1) * (5 + szT 5 z + 4) ≤ 10001 * 3009 := Nat.mul_le_mul (by omega) (by omega)
  refine spec_l2Set (k := 5) (P := 5) n ht hw hu hne hz hwz hps (by omega) fun es' y σ' k hy hwy hys => ?_
  have hy11 : RT 11 (Av.get w0 σ') es' y := RT_le (by omega) hy
  have hys11 : szT 11 y ≤ 40000000 := by rw [sz_more hy.isT (by omega)]; omega
  have hb' := mono_rt 5 _ _ _ _ k.le hb
  have hcnt := cnt_le (n + 5) y
  have hb11 : RT 11 (Av.get w0 σ') eb tb := RT_le (by omega) hb'
  have hbs11 : szT 11 tb ≤ 40000000 := by rw [sz_more hb.isT (by omega)]; omega
  refine spec_l2Fits hy hb' (by omega) ?_ ?_
  · obtain ⟨a, b, c, d, e, rfl, hp⟩ := hb'.shape
    rw [pExtract_s rfl, pExtract_s rfl, hp]
    simp only [cellOf_agg, List.getD_cons_zero, List.getD_cons_succ]
    exact hR _ _ _ 6 k hb11 hbs11 (by omega)
  · obtain ⟨a, b, c, d, e, rfl, hp⟩ := hy.shape
    rw [pExtract_s rfl, pExtract_s rfl, hp]
    simp only [cellOf_agg, List.getD_cons_zero, List.getD_cons_succ]
    exact hR _ _ _ 0 k hy11 hys11 (by omega)
end
end Go.Proofs.YtkbhjejalkbogaaGreatDoor

/- A call done in a tree by the reference's hand: files, moves, all of it. -/
set_option linter.unusedVariables false
set_option linter.unusedSimpArgs false
namespace Go.Proofs.YtkbhjejalkbogaaGreatDoor
open Go Go.Av

theorem wf_at : ∀ (ps : List ByteArray) {n : Nat} {x y : Tr}, IsT n x → wfT n x → atT x ps = some y → wfT n y
  | [], _, _, _, _, hw, e => by cases e; exact hw
  | p :: r, 0, x, y, ⟨_, _, h⟩, _, e => h.elim
  | p :: r, n + 1, .mk d m t ns ks, y, h, hw, e => by
    simp only [atT, Option.bind_eq_some_iff] at e
    obtain ⟨k, hk, e⟩ := e
    have hm := kid_mem hk
    have hi := isT_kid h hm
    obtain ⟨rd, es, h1⟩ := (sz_at r hi e).1
    exact wf_more h1 (wf_at r hi (hw.2 k hm) e) (by omega)

section
variable {w0 : World} {σ : Vw}

theorem OutD.same {es : List Value} {x : Tr} {R : Value → Vw → Prop} (hR : OutD w0 σ R) (h : RT 5 (Av.get w0 σ) es x) (hs : szT 5 x ≤ 1000) {k : Int} (hk : 0 ≤ k ∧ k ≤ 7) : R (.tuple ⟨[.agg ⟨es⟩, .int .i64 k]⟩) σ :=
  hR _ _ _ k (Keeps.refl _) (RT_le (by omega) h) (by rw [sz_more h.isT (by omega)]; omega) hk
theorem OutD.keep {R : Value → Vw → Prop} (hR : OutD w0 σ R) {s : Vw} (k : Keeps σ s) : OutD w0 s R := fun es y s' c k' h1 h2 h3 => hR es y s' c (k.trans k') h1 h2 h3

set_option maxHeartbeats 4000000 in
theorem spec_l2File {es cs : List Value} {x : Tr} {c : Cl} (h : RT 5 (Av.get w0 σ) es x) (hw : wfT 5 x) (hs : szT 5 x ≤ 1000) (hc : RCl (Av.get w0 σ) cs c) (hok : callOk c = true) (hk : c.1 = 2 ∨ c.1 = 3) (hdl : c.2.2.2.2.size ≤ 1000000) {R : Value → Vw → Prop} (hR : OutD w0 σ R) : AC Tryz.prog w0 n_spec_l2File [.agg ⟨es⟩, .agg ⟨cs⟩] σ R := by
  obtain ⟨⟨hne, hps⟩, _, hat⟩ := callOk_facts hok
  obtain ⟨k, p, t, a, d⟩ := c
  simp only at hne hps hat hk
  have hat := hat hk
  refine ac_spec_l2File ?_
  unfold vc_spec_l2File cs_spec_l2File_1 cs_spec_l2File_2
  have h0 := h
  obtain ⟨u, w, rfl, hu, hw', hkk, haa, hdd⟩ := hc
  simp only at hu hw' hkk haa hdd hdl
  obtain ⟨a0, a1, a2, a3, a4, rfl, hp⟩ := h.shape
  rw [hp, pVal_5 rfl hu.one hw'.one rfl rfl]
  simp only [cellOf_agg, List.getD_cons_zero, List.getD_cons_succ]
  refine spec_At _ h0 hw hu fun ez hz => ?_
  generalize hzz : (atT x p).getD zeroT = z at hz
  have hzsz : szT 5 z ≤ 1000 ∧ wfT 5 z := by
    cases hat2 : atT x p with
    | none => rw [hat2] at hzz; rw [← hzz]; exact ⟨by rw [show (none : Option Tr).getD zeroT = zeroT from rfl, sz_zero]; omega, wf_zero 5⟩
    | some y =>
      rw [hat2] at hzz
      have := (sz_at p h0.isT hat2).2
      have hwz : wfT 5 y := wf_at p h0.isT hw hat2
      rw [← hzz]; exact ⟨by show szT 5 y ≤ 1000; omega, hwz⟩
  obtain ⟨zu, zw, rfl, hz1, hz2, hz3, hz4, hzp⟩ := hz.cells
  rw [pExtract_s rfl, pExtract_s rfl, hzp]
  simp only [cellOf_agg, List.getD_cons_zero, List.getD_cons_succ]
  have hdz : (dataOf z).size ≤ 1000 := by
    obtain ⟨d', m', t', ns', ks'⟩ := z
    have : szT 5 (.mk d' m' t' ns' ks') = t'.size + (ns'.length + sumS ns') + (ks'.length + sumBy (szT 4) ks') := rfl
    show t'.size ≤ 1000
    omega
  have same : ∀ k : Int, 0 ≤ k ∧ k ≤ 7 → pVal true 5 (.agg (⟨[a0, a1, a2, a3, a4]⟩)) (R (.tuple (⟨[.agg (⟨[a0, a1, a2, a3, a4]⟩), .int .i64 k]⟩)) σ) := fun k hk => by
    rw [hp]; exact hR.same h0 hs hk
  have SET : ∀ (t' : ByteArray) (s : Vw), Keeps σ s → t'.size ≤ 1100 → pVal false 1 (.string t') (AC Tryz.prog w0 n_spec_l2Set [.agg ⟨[a0, a1, a2, a3, a4]⟩, u, .agg ⟨[.bool (isDir z), .int .i64 (modeOf z), .string t', zu, zw]⟩, .bool false] s (fun v12 s13 => AC Tryz.prog w0 n_spec_l2Fits [v12, .agg ⟨[a0, a1, a2, a3, a4]⟩] s13 (fun v14 s15 => pExtract v14 0 (fun v16 => pExtract v14 1 (fun v17 => pVal true 5 v16 (R (.tuple (⟨[.agg (⟨[cellOf v16 0, cellOf v16 1, cellOf v16 2, cellOf v16 3, cellOf v16 4]⟩), v17]⟩)) s15)))))) := fun t' s ks ht' => by
    rw [pVal1 rfl]
    obtain ⟨y, hy, hwy, hys⟩ := (mono_rt 5 _ _ _ _ ks.le hz).data (t := t') (by omega)
    have h0' := mono_rt 5 _ _ _ _ ks.le h0
    exact set_fits (by omega) h0' hw (by omega) h0' hs (hu.mono ks.le fun _ _ h => h) hne hps hy (hwy hzsz.2) (by omega) (hR.keep ks)
  obtain ⟨at', rfl⟩ : ∃ n : Nat, a = n := ⟨a.toNat, by omega⟩
  have TRUNC : pLenS (.string (dataOf z)) (fun v7 => pBin Tryz.prog 3 .gtr v7 (.int .i64 (at' : Nat)) (fun v8 => pIf v8 (pSliceStr (.string (dataOf z)) none (some (.int .i64 (at' : Nat))) (fun v9 => AC Tryz.prog w0 n_spec_l2Write ([v9, .int .i64 (at' : Nat), .string ({ data := #[] })]) σ (fun v10 s11 => pVal false 1 v10 (AC Tryz.prog w0 n_spec_l2Set [.agg ⟨[a0, a1, a2, a3, a4]⟩, u, .agg ⟨[.bool (isDir z), .int .i64 (modeOf z), v10, zu, zw]⟩, .bool false] s11 (fun v12 s13 => AC Tryz.prog w0 n_spec_l2Fits [v12, .agg ⟨[a0, a1, a2, a3, a4]⟩] s13 (fun v14 s15 => pExtract v14 0 (fun v16 => pExtract v14 1 (fun v17 => pVal true 5 v16 (R (.tuple (⟨[.agg (⟨[cellOf v16 0, cellOf v16 1, cellOf v16 2, cellOf v16 3, cellOf v16 4]⟩), v17]⟩)) s15)))))))))
      (AC Tryz.prog w0 n_spec_l2Write ([.string (dataOf z), .int .i64 (at' : Nat), .string ({ data := #[] })]) σ (fun v10 s11 => pVal false 1 v10 (AC Tryz.prog w0 n_spec_l2Set [.agg ⟨[a0, a1, a2, a3, a4]⟩, u, .agg ⟨[.bool (isDir z), .int .i64 (modeOf z), v10, zu, zw]⟩, .bool false] s11 (fun v12 s13 => AC Tryz.prog w0 n_spec_l2Fits [v12, .agg ⟨[a0, a1, a2, a3, a4]⟩] s13 (fun v14 s15 => pExtract v14 0 (fun v16 => pExtract v14 1 (fun v17 => pVal true 5 v16 (R (.tuple (⟨[.agg (⟨[cellOf v16 0, cellOf v16 1, cellOf v16 2, cellOf v16 3, cellOf v16 4]⟩), v17]⟩)) s15))))))))))  := by
    have e0 : (⟨#[]⟩ : ByteArray).size = 0 := rfl
    rw [pLenS_s, pBin_gt, pIf_d]
    refine ⟨fun hgt => ?_, fun hle => ?_⟩
    · refine pSliceStr_s (l := 0) (h := at') rfl rfl (by omega) ?_
      have hxs : ((dataOf z).extract (0 : Int).toNat ((at' : Nat) : Int).toNat).size ≤ 24 := by
        rw [ByteArray.size_extract]; omega
      exact spec_l2Write (by omega) (by omega) (by omega) fun t' s' k' ht' => SET t' s' k' (by omega)
    · exact spec_l2Write (by omega) (by omega) (by omega) fun t' s' k' ht' => SET t' s' k' (by omega)
  have WRITE : pLenS (.string d) (fun v26 => pBin Tryz.prog 3 .add v26 (.int .i64 (at' : Nat)) (fun v27 => pBin Tryz.prog 3 .gtr v27 (.int .i64 24) (fun v28 => pIf v28 (pVal true 5 (.agg (⟨[a0, a1, a2, a3, a4]⟩)) (R (.tuple (⟨[.agg (⟨[a0, a1, a2, a3, a4]⟩), .int .i64 6]⟩)) σ))
      (AC Tryz.prog w0 n_spec_l2Write ([.string (dataOf z), .int .i64 (at' : Nat), .string d]) σ (fun v10 s11 => pVal false 1 v10 (AC Tryz.prog w0 n_spec_l2Set [.agg ⟨[a0, a1, a2, a3, a4]⟩, u, .agg ⟨[.bool (isDir z), .int .i64 (modeOf z), v10, zu, zw]⟩, .bool false] s11 (fun v12 s13 => AC Tryz.prog w0 n_spec_l2Fits [v12, .agg ⟨[a0, a1, a2, a3, a4]⟩] s13 (fun v14 s15 => pExtract v14 0 (fun v16 => pExtract v14 1 (fun v17 => pVal true 5 v16 (R (.tuple (⟨[.agg (⟨[cellOf v16 0, cellOf v16 1, cellOf v16 2, cellOf v16 3, cellOf v16 4]⟩), v17]⟩)) s15))))))))))) := by
    rw [pLenS_s, pBin_add (by omega), pBin_gt, pIf_d]
    refine ⟨fun _ => same 6 (by omega), fun hle => ?_⟩
    exact spec_l2Write (by omega) (by omega) (by omega) fun t' s' k' ht' => SET t' s' k' (by omega)
  refine pIf_b.2 ⟨fun _ => pIf_b.2 ⟨fun _ => same 4 (by omega), fun _ => ?_⟩, fun _ => ?_⟩
  all_goals
    rw [pUn_not, pIf_b]
    refine ⟨fun _ => ?_, fun _ => ?_⟩
    · rw [pBin_eq, pIf_d]
      refine ⟨fun _ => same 3 (by omega), fun _ => ?_⟩
      rw [pBin_eq, pIf_d]
      exact ⟨fun _ => TRUNC, fun _ => WRITE⟩
    · rw [pBin_eq, pIf_d]
      exact ⟨fun _ => TRUNC, fun _ => WRITE⟩

theorem at_small {ps : List ByteArray} {x : Tr} {rd : Addr → Option Value} {es : List Value} (h : RT 5 rd es x) (hw : wfT 5 x) (hs : szT 5 x ≤ 1000) : szT 5 ((atT x ps).getD zeroT) ≤ 1000 ∧ wfT 5 ((atT x ps).getD zeroT) := by
  cases hat2 : atT x ps with
  | none => exact ⟨by rw [show (none : Option Tr).getD zeroT = zeroT from rfl, sz_zero]; omega, wf_zero 5⟩
  | some y => exact ⟨by have := (sz_at ps h.isT hat2).2; show szT 5 y ≤ 1000; omega, wf_at ps h.isT hw hat2⟩

set_option maxHeartbeats 4000000 in
theorem spec_l2Rename {es cs : List Value} {x : Tr} {c : Cl} (h : RT 5 (Av.get w0 σ) es x) (hw : wfT 5 x) (hs : szT 5 x ≤ 1000) (hc : RCl (Av.get w0 σ) cs c) (hok : callOk c = true) (hk : c.1 = 5) {R : Value → Vw → Prop} (hR : OutD w0 σ R) : AC Tryz.prog w0 n_spec_l2Rename [.agg ⟨es⟩, .agg ⟨cs⟩] σ R := by
  obtain ⟨⟨hne, hps⟩, hto, _⟩ := callOk_facts hok
  obtain ⟨k, p, t, a, d⟩ := c
  simp only at hne hps hto hk
  obtain ⟨hne2, hpt⟩ := hto hk
  refine ac_spec_l2Rename ?_
  unfold vc_spec_l2Rename
  have h0 := h
  obtain ⟨u, w, rfl, hu, hw', hkk, haa, hdd⟩ := hc
  simp only at hu hw' hkk haa hdd
  obtain ⟨a0, a1, a2, a3, a4, rfl, hp⟩ := h.shape
  rw [hp, pVal_5 rfl hu.one hw'.one rfl rfl]
  simp only [cellOf_agg, List.getD_cons_zero, List.getD_cons_succ]
  have same : ∀ k : Int, 0 ≤ k ∧ k ≤ 7 → pVal true 5 (.agg (⟨[a0, a1, a2, a3, a4]⟩)) (R (.tuple (⟨[.agg (⟨[a0, a1, a2, a3, a4]⟩), .int .i64 k]⟩)) σ) := fun k hk => by
    rw [hp]; exact hR.same h0 hs hk
  refine spec_At _ h0 hw hu fun ez hz => ?_
  obtain ⟨hzs, hzw⟩ := at_small (ps := p) h0 hw hs
  generalize (atT x p).getD zeroT = z at *
  have hz0 := hz
  obtain ⟨z0, z1, z2, z3, z4, rfl, hzp⟩ := hz.shape
  rw [pExtract_s rfl, pExtract_s rfl, hzp, pUn_not, pIf_b]
  refine ⟨fun _ => same 3 (by omega), fun _ => ?_⟩
  refine spec_Within hw' hu (pIf_b.2 ⟨fun _ => same 7 (by omega), fun _ => ?_⟩)
  refine spec_l2Parent h0 hw hw' hne2 fun k hk => ?_
  rw [pBin_ne, pIf_d]
  refine ⟨fun _ => same k hk, fun _ => ?_⟩
  refine spec_At _ h0 hw hw' fun ey hy => ?_
  obtain ⟨y0, y1, y2, y3, y4, rfl, hyp⟩ := hy.shape
  rw [pExtract_s rfl, pExtract_s rfl, hyp, pIf_b]
  refine ⟨fun _ => same 5 (by omega), fun _ => ?_⟩
  simp only [cellOf_agg, List.getD_cons_zero, List.getD_cons_succ]
  have hmul : (szT 5 x + 1) * (5 + szT 1 zeroT + 4) ≤ 1001 * 9 := by rw [sz_zero]; exact Nat.mul_le_mul (by omega) (by omega)
  refine spec_l2Set (k := 1) (P := 5) 5 h0 hw hu hne (RT_zero 0 _) (wf_zero 1) hps (by omega) fun es' y σ' k' hy' hwy hys => ?_
  have hys : szT 6 y + 1 ≤ (szT 5 x + 1) * (5 + szT 1 zeroT + 4) := hys
  refine set_fits (n := 6) (by omega) hy' hwy (by omega) (mono_rt 5 _ _ _ _ k'.le h0) hs (hw'.mono k'.le fun _ _ h => h) hne2 hpt (mono_rt 5 _ _ _ _ k'.le hz0) hzw (by omega) (hR.keep k')

theorem set_out {es ez : List Value} {u : Value} {x z : Tr} {ps : List ByteArray} {gone : Bool} (h : RT 5 (Av.get w0 σ) es x) (hw : wfT 5 x) (hs : szT 5 x ≤ 1000) (hu : RSl 1 RS (Av.get w0 σ) u ps) (hne : ps ≠ []) (hps : ∀ s, s ∈ ps → s.size ≤ 5) (hz : RT 5 (Av.get w0 σ) ez z) (hwz : wfT 5 z) (hzs : szT 5 z ≤ 1000) {R : Value → Vw → Prop} (hR : OutD w0 σ R) :
    AC Tryz.prog w0 n_spec_l2Set [.agg ⟨es⟩, u, .agg ⟨ez⟩, .bool gone] σ (fun v28 s29 => pVal true 5 v28 (R (.tuple (⟨[.agg (⟨[cellOf v28 0, cellOf v28 1, cellOf v28 2, cellOf v28 3, cellOf v28 4]⟩), .int .i64 0]⟩)) s29)) := by
  have hmul : (szT 5 x + 1) * (5 + szT 5 z + 4) ≤ 1001 * 1009 := Nat.mul_le_mul (by omega) (by omega)
  refine spec_l2Set (k := 5) (P := 5) 5 h hw hu hne hz hwz hps (by omega) fun es' y σ' k' hy hwy hys => ?_
  have hy11 : RT 11 (Av.get w0 σ') es' y := RT_le (by omega) hy
  have hs11 : szT 11 y ≤ 40000000 := by rw [sz_more hy.isT (by omega)]; omega
  obtain ⟨a, b, c, d, e, rfl, hp⟩ := hy.shape
  rw [hp]
  simp only [cellOf_agg, List.getD_cons_zero, List.getD_cons_succ]
  exact hR _ _ _ 0 k' hy11 hs11 (by omega)

theorem out_pass {R : Value → Vw → Prop} (hR : OutD w0 σ R) : OutD w0 σ (fun v15 s16 => pExtract v15 0 (fun v17 => pExtract v15 1 (fun v18 => pVal true 5 v17 (R (.tuple (⟨[.agg (⟨[cellOf v17 0, cellOf v17 1, cellOf v17 2, cellOf v17 3, cellOf v17 4]⟩), v18]⟩)) s16)))) := fun es y s' k k' h1 h2 h3 => by
  have h0 := h1
  obtain ⟨a, b, c, d, e, rfl, hp⟩ := h1.shape
  show pExtract _ _ _
  rw [pExtract_s rfl, pExtract_s rfl, hp]
  simp only [cellOf_agg, List.getD_cons_zero, List.getD_cons_succ]
  exact hR _ _ _ k k' h0 h2 h3

set_option maxHeartbeats 4000000 in
theorem spec_l2Do {es cs : List Value} {x : Tr} {c : Cl} (h : RT 5 (Av.get w0 σ) es x) (hw : wfT 5 x) (hs : szT 5 x ≤ 1000) (hc : RCl (Av.get w0 σ) cs c) (hok : callOk c = true) (hdl : c.2.2.2.2.size ≤ 1000000) {R : Value → Vw → Prop} (hR : OutD w0 σ R) : AC Tryz.prog w0 n_spec_l2Do [.agg ⟨es⟩, .agg ⟨cs⟩] σ R := by
  obtain ⟨⟨hne, hps⟩, _, _⟩ := callOk_facts hok
  have hc0 := hc
  obtain ⟨k, p, t, a, d⟩ := c
  simp only at hne hps
  refine ac_spec_l2Do ?_
  unfold vc_spec_l2Do cs_spec_l2Do_1
  have h0 := h
  obtain ⟨u, w, rfl, hu, hw', hkk, haa, hdd⟩ := hc
  simp only at hu hw' hkk haa hdd hdl
  obtain ⟨a0, a1, a2, a3, a4, rfl, hp⟩ := h.shape
  rw [hp, pVal_5 rfl hu.one hw'.one rfl rfl]
  simp only [cellOf_agg, List.getD_cons_zero, List.getD_cons_succ]
  have same : ∀ k : Int, 0 ≤ k ∧ k ≤ 7 → pVal true 5 (.agg (⟨[a0, a1, a2, a3, a4]⟩)) (R (.tuple (⟨[.agg (⟨[a0, a1, a2, a3, a4]⟩), .int .i64 k]⟩)) σ) := fun k hk => by
    rw [hp]; exact hR.same h0 hs hk
  refine spec_l2Parent h0 hw hu hne fun k2 hk2 => ?_
  rw [pBin_ne, pIf_d]
  refine ⟨fun _ => same k2 hk2, fun _ => ?_⟩
  refine spec_At _ h0 hw hu fun ez hz => ?_
  obtain ⟨hzs, hzw⟩ := at_small (ps := p) h0 hw hs
  generalize (atT x p).getD zeroT = z at *
  generalize (atT x p).isSome = there
  have hz0 := hz
  obtain ⟨zu, zw, rfl, hz1, hz2, hz3, hz4, hzp⟩ := hz.cells
  rw [pExtract_s rfl, pExtract_s rfl, hzp]
  simp only [cellOf_agg, List.getD_cons_zero, List.getD_cons_succ]
  have hnew : RT 5 (Av.get w0 σ) [.bool true, .int .i64 a, .string ⟨#[]⟩, .slice none 0 0, .slice none 0 0] (.mk true a ⟨#[]⟩ [] []) :=
    ⟨_, _, rfl, haa, by show 0 ≤ _; omega, ⟨none, 0, rfl, by simp, fun j x h => by simp at h⟩, ⟨none, 0, rfl, by simp, fun j x h => by simp at h⟩⟩
  have hnw : wfT 5 (.mk true a ⟨#[]⟩ [] []) := ⟨rfl, fun k hk => by cases hk⟩
  have hns : szT 5 (.mk true a ⟨#[]⟩ [] []) ≤ 1000 := by show 0 + (0 + 0) + (0 + 0) ≤ 1000; omega
  have FILE : k = 2 ∨ k = 3 → _ := fun hk => spec_l2File h0 hw hs hc0 hok hk hdl (out_pass hR)
  rw [pBin_eq, pIf_d]
  refine ⟨fun _ => pIf_b.2 ⟨fun _ => same 5 (by omega), fun _ => ?_⟩, fun _ => ?_⟩
  · rw [pVal1 rfl, pVal1 rfl]
    exact set_fits (by omega) h0 hw (by omega) h0 hs hu hne hps hnew hnw (by omega) hR
  rw [pBin_eq, pIf_d]
  have REST : pBin Tryz.prog 3 .eql (.int .i64 k) (.int .i64 5) (fun v37 => pIf v37 (AC Tryz.prog w0 n_spec_l2Rename ([.agg (⟨[a0, a1, a2, a3, a4]⟩), .agg (⟨[.int .i64 k, u, w, .int .i64 a, .string d]⟩)]) σ (fun v38 s39 => pExtract v38 0 (fun v40 => pExtract v38 1 (fun v41 => pVal true 5 v40 (R (.tuple (⟨[.agg (⟨[cellOf v40 0, cellOf v40 1, cellOf v40 2, cellOf v40 3, cellOf v40 4]⟩), v41]⟩)) s39)))))
      (pUn UnOp.not (.bool there) (fun v42 => pIf v42 (pVal true 5 (.agg (⟨[a0, a1, a2, a3, a4]⟩)) (R (.tuple (⟨[.agg (⟨[a0, a1, a2, a3, a4]⟩), .int .i64 3]⟩)) σ)) (pBin Tryz.prog 3 .eql (.int .i64 k) (.int .i64 4) (fun v43 => pIf v43 (pLen zu (fun v44 => pBin Tryz.prog 3 .gtr v44 (.int .i64 0) (fun v45 => pIf v45 (pVal true 5 (.agg (⟨[a0, a1, a2, a3, a4]⟩)) (R (.tuple (⟨[.agg (⟨[a0, a1, a2, a3, a4]⟩), .int .i64 5]⟩)) σ))
        (AC Tryz.prog w0 n_spec_l2Set ([.agg (⟨[a0, a1, a2, a3, a4]⟩), u, .agg (⟨[.bool false, .int .i64 0, .string ({ data := #[] }), .slice none 0 0, .slice none 0 0]⟩), .bool true]) σ (fun v46 s47 => pVal true 5 v46 (R (.tuple (⟨[.agg (⟨[cellOf v46 0, cellOf v46 1, cellOf v46 2, cellOf v46 3, cellOf v46 4]⟩), .int .i64 0]⟩)) s47))))))
        (pVal false 1 (.int .i64 a) (AC Tryz.prog w0 n_spec_l2Set ([.agg (⟨[a0, a1, a2, a3, a4]⟩), u, .agg (⟨[.bool (isDir z), .int .i64 a, .string (dataOf z), zu, zw]⟩), .bool false]) σ (fun v48 s49 => pVal true 5 v48 (R (.tuple (⟨[.agg (⟨[cellOf v48 0, cellOf v48 1, cellOf v48 2, cellOf v48 3, cellOf v48 4]⟩), .int .i64 0]⟩)) s49))))))))) := by
    rw [pBin_eq, pIf_d]
    refine ⟨fun hk => spec_l2Rename h0 hw hs hc0 hok hk (out_pass hR), fun _ => ?_⟩
    rw [pUn_not, pIf_b]
    refine ⟨fun _ => same 3 (by omega), fun _ => ?_⟩
    rw [pBin_eq, pIf_d]
    refine ⟨fun _ => ?_, fun _ => ?_⟩
    · rw [hz3.len, pBin_gt, pIf_d]
      refine ⟨fun _ => same 5 (by omega), fun _ => ?_⟩
      exact set_out h0 hw hs hu hne hps (RT_zero 4 _) (wf_zero 5) (by rw [sz_zero]; omega) hR
    · rw [pVal1 rfl]
      obtain ⟨y, hy, hyw, hys⟩ := hz0.mode haa
      exact set_out h0 hw hs hu hne hps hy (hyw hzw) (by omega) hR
  refine ⟨fun hk => ?_, fun hk => ?_⟩
  · rw [pIf_d]
    exact ⟨fun _ => FILE (by omega), fun h => absurd hk h⟩
  · rw [pBin_eq, pIf_d]
    exact ⟨fun hk => FILE (by omega), fun _ => REST⟩
end
end Go.Proofs.YtkbhjejalkbogaaGreatDoor

/- The reader of a code that a draw is drawn from: a row of its own that is hidden from all else; its picks. -/
set_option linter.unusedVariables false
set_option linter.unusedSimpArgs false
namespace Go.Av
open Go Go.RowKit

/-- A view without a row. -/
def Vw.del (σ : Vw) (b : Nat) : Vw := fun i => if i = b then none else σ i
theorem del_at {σ : Vw} {b : Nat} : (σ.del b) b = none := by simp [Vw.del]
theorem del_ne {σ : Vw} {b i : Nat} (h : i ≠ b) : (σ.del b) i = σ i := by simp [Vw.del, h]
theorem del_put {σ : Vw} {b : Nat} {r : Row} (h : σ b = none) : (σ.put b r).del b = σ := by
  funext i
  by_cases e : i = b
  · subst e; simp [Vw.del, h]
  · simp [Vw.del, Vw.put, e]
theorem del_some {σ : Vw} {b i : Nat} {r : Row} (h : (σ.del b) i = some r) : i ≠ b ∧ σ i = some r := by
  by_cases e : i = b
  · subst e; rw [del_at] at h; cases h
  · exact ⟨e, by rw [del_ne e] at h; exact h⟩
theorem del_keeps {σ : Vw} {b : Nat} : Keeps (σ.del b) σ := fun i r h => (del_some h).2
theorem del_le {w0 : World} {σ : Vw} {b : Nat} : Le (Av.get w0 (σ.del b)) (Av.get w0 σ) := del_keeps.le

/-- A call does not see a row that is kept from it, and leaves it. -/
theorem AC.hide {P : Program} {w0 : World} {f : FuncId} {args : List Value} {σ : Vw} {R R' : Value → Vw → Prop} {b : Nat} {r : Row} (hb : σ b = some r) (h : AC P w0 f args (σ.del b) R) (hR : ∀ v σ', σ' b = none → R v σ' → R' v (σ'.put b r)) : AC P w0 f args σ R' := by
  refine ⟨h.1, fun w hw => ?_⟩
  have hs : Sat w0 (σ.del b) w := ⟨hw.bel, fun i r' hi => hw.row i r' (del_some hi).2⟩
  refine (h.2 w hs).mono ?_
  rintro e w' ⟨v, σ', he, hRv, ha⟩
  have hlt := hw.lt hb
  have hn : σ' b = none := by
    cases hc : σ' b with
    | none => rfl
    | some r' =>
      rcases ha.dom b r' hc with h1 | h1
      · exact absurd del_at h1
      · omega
  refine ⟨v, σ'.put b r, he, hR v σ' hn hRv, ⟨⟨ha.sat.bel, fun i r' hi => ?_⟩, ha.size, fun i hi hni => ?_, fun i r' hi => ?_⟩⟩
  · by_cases e : i = b
    · subst e
      rw [put_at] at hi; cases hi
      obtain ⟨h1, cur, h2, h3⟩ := hw.row i _ hb
      exact ⟨h1, cur, (ha.fr i hlt del_at).trans h2, h3⟩
    · rw [put_ne e] at hi
      exact ha.sat.row i r' hi
  · refine ha.fr i hi ?_
    by_cases e : i = b
    · subst e; exact del_at
    · rw [del_ne e]; exact hni
  · by_cases e : i = b
    · subst e; exact .inl (by rw [hb]; simp)
    · rw [put_ne e] at hi
      rcases ha.dom i r' hi with h1 | h1
      · exact .inl (by rw [del_ne e] at h1; exact h1)
      · exact .inr h1
end Go.Av
namespace Go.Proofs.YtkbhjejalkbogaaGreatDoor
open Go Go.Av Go.RowKit

theorem pBin_xor {P : Program} {T : Nat} {a b : Int} {K : Value → Prop} (ha : 0 ≤ a ∧ a ≤ 9223372036854775807) (hb : 0 ≤ b ∧ b ≤ 9223372036854775807) (hK : ∀ c : Int, 0 ≤ c ∧ c ≤ 9223372036854775807 → K (.int .i64 c)) : pBin P T .xor (.int .i64 a) (.int .i64 b) K := by
  obtain ⟨m, rfl⟩ : ∃ m : Nat, a = m := ⟨a.toNat, by omega⟩
  obtain ⟨n, rfl⟩ : ∃ n : Nat, b = n := ⟨b.toNat, by omega⟩
  refine ⟨_, rfl, ?_⟩
  have h1 : (BitVec.ofInt 64 (m : Int) ^^^ BitVec.ofInt 64 (n : Int)).toNat = m ^^^ n := by
    rw [BitVec.toNat_xor]
    simp only [BitVec.ofInt_natCast, BitVec.toNat_ofNat]
    rw [Nat.mod_eq_of_lt (by omega), Nat.mod_eq_of_lt (by omega)]
  have h2 : m ^^^ n < 2 ^ 63 := Nat.xor_lt_two_pow (by omega) (by omega)
  show K (.int .i64 (IntKind.i64.wrap ((BitVec.ofInt 64 (m : Int) ^^^ BitVec.ofInt 64 (n : Int)).toNat : Int)))
  rw [h1, IntWalk.i64_in _ (by omega)]
  exact hK _ (by omega)
section
variable {w0 : World} {σ : Vw}

/-- A byte that is read. -/
def RU8 (rd : Addr → Option Value) (es : List Value) (x : Nat) : Prop := es = [.int .u8 (x : Int)] ∧ x ≤ 255
/-- The reader: its row, how far it has come at most. -/
def RD (w0 : World) (σ : Vw) (b p : Nat) : Prop := ∃ (u : Value) (q ety cap : Nat) (bs : List Nat), w0.heap.size ≤ b ∧ σ b = some ⟨ety, [u, .int .i64 (q : Nat)], cap, (0, 0)⟩ ∧ q ≤ p ∧ RSl 1 RU8 (Av.get w0 (fun _ => none)) u bs ∧ bs.length ≤ 2000

theorem RD.more {b p p' : Nat} (h : RD w0 σ b p) (hp : p ≤ p') : RD w0 σ b p' := by
  obtain ⟨u, q, ety, cap, bs, h1, h2, h3, h4⟩ := h
  exact ⟨u, q, ety, cap, bs, h1, h2, by omega, h4⟩
/-- The reader's row is not touched, the rest is kept. -/
theorem RD.keep {b p : Nat} {s : Vw} (h : RD w0 σ b p) (hb : s b = σ b) : RD w0 s b p := by
  obtain ⟨u, q, ety, cap, bs, h1, h2, h3, h4, h5⟩ := h
  exact ⟨u, q, ety, cap, bs, h1, by rw [hb]; exact h2, h3, h4, h5⟩
/-- Calls that have nothing to do with the reader. -/
theorem RD.hide {b p : Nat} (h : RD w0 σ b p) {f : FuncId} {args : List Value} {R R' : Value → Vw → Prop} (hc : AC Tryz.prog w0 f args (σ.del b) R) (hR : ∀ v s, Keeps (σ.del b) (s.del b) → RD w0 s b p → R v (s.del b) → R' v s) (hk : ∀ v s, R v s → Keeps (σ.del b) s) : AC Tryz.prog w0 f args σ R' := by
  obtain ⟨u, q, ety, cap, bs, h1, h2, h3, h4, h5⟩ := h
  refine AC.hide h2 hc fun v s hs hRv => ?_
  have hd : (s.put b ⟨ety, [u, .int .i64 (q : Nat)], cap, (0, 0)⟩).del b = s := del_put hs
  have k := hk v s hRv
  refine hR v _ (by rw [hd]; exact k) ⟨u, q, ety, cap, bs, h1, put_at, h3, h4, h5⟩ (by rw [hd]; exact hRv)
end
end Go.Proofs.YtkbhjejalkbogaaGreatDoor

/- What is drawn from a code: numbers, names, bytes; a call done in a tree, in all. -/
set_option linter.unusedVariables false
set_option linter.unusedSimpArgs false
namespace Go.Proofs.YtkbhjejalkbogaaGreatDoor
open Go Go.Av Go.RowKit

section
variable {w0 : World} {σ : Vw}

theorem spec_TreeDo {n : Nat} {es cs : List Value} {x : Tr} {c : Cl} (h : RT n (Av.get w0 σ) es x) (hs : szT n x ≤ 1000000000) (hc : RCl (Av.get w0 σ) cs c) (hdl : c.2.2.2.2.size ≤ 1000000) {R : Value → Vw → Prop} (hR : OutD w0 σ R) : AC Tryz.prog w0 n_spec_TreeDo [.agg ⟨es⟩, .agg ⟨cs⟩] σ R := by
  refine ac_spec_TreeDo ?_
  unfold vc_spec_TreeDo
  have h0 := h
  have hc0 := hc
  have hcnt := cnt_le n x
  obtain ⟨u, w, rfl, hu, hw', hkk, haa, hdd⟩ := hc
  obtain ⟨a0, a1, a2, a3, a4, rfl, hp⟩ := h.shape
  rw [hp, pVal_5 rfl hu.one hw'.one rfl rfl]
  simp only [cellOf_agg, List.getD_cons_zero, List.getD_cons_succ]
  refine spec_TreeOk h0 (by omega) ?_
  rw [pUn_not, pIf_b]
  refine ⟨fun _ => ?_, fun e => ?_⟩
  · rw [pVal_5 rfl rfl rfl rfl rfl]
    exact hR _ zeroT _ 1 (Keeps.refl _) (RT_zero 10 _) (by rw [sz_zero]; omega) (by omega)
  have hok : treeOk n x = true := by simpa using e
  obtain ⟨h5, hw5, hs5⟩ := ok_smallT h0 hok
  have pack : ∀ {m : Nat} {s : Vw} {ey : List Value} {y : Tr} {k : Int}, Keeps σ s → RT m (Av.get w0 s) ey y → m ≤ 11 → szT m y ≤ 40000000 → (0 ≤ k ∧ k ≤ 7) → AC Tryz.prog w0 n_spec_l1Copy [.agg ⟨ey⟩] s (fun v6 s7 => pVal true 5 v6 (R (.tuple (⟨[.agg (⟨[cellOf v6 0, cellOf v6 1, cellOf v6 2, cellOf v6 3, cellOf v6 4]⟩), .int .i64 k]⟩)) s7)) := fun {m s ey y k} ks hy hm hsz hk => by
    refine spec_l1Copy m hy (fit_of m y (by omega)) fun es' F s' k' o f => ?_
    have ho := (ok_rt w0 m).rel _ _ _ _ o
    have ho11 : RT 11 (Av.get w0 s') es' y := RT_le hm ho
    have hs11 : szT 11 y ≤ 40000000 := by rw [sz_more ho.isT hm]; omega
    obtain ⟨a, b, c, d, e, rfl, hp'⟩ := ho.shape
    rw [hp']
    simp only [cellOf_agg, List.getD_cons_zero, List.getD_cons_succ]
    exact hR _ _ _ k (ks.trans k') ho11 hs11 hk
  refine spec_l2CallOk hc0 ?_
  rw [pUn_not, pIf_b]
  refine ⟨fun _ => pack (Keeps.refl _) h5 (by omega) (by omega) (by omega), fun e => ?_⟩
  have hco : callOk c = true := by simpa using e
  refine spec_l2Do h5 hw5 hs5 hc0 hco hdl fun ey y s k ks hy hsy hk => ?_
  have hy0 := hy
  obtain ⟨b0, b1, b2, b3, b4, rfl, hp2⟩ := hy.shape
  rw [pExtract_s rfl, pExtract_s rfl, hp2]
  simp only [cellOf_agg, List.getD_cons_zero, List.getD_cons_succ]
  exact pack ks hy0 (by omega) hsy hk

/-! ### Picks -/
abbrev ptr (b : Nat) : Value := .pointer (some (Addr.mk b 0 none))
theorem spec_pick {b p n : Nat} (h : RD w0 σ b p) (hp : p ≤ 100000000) (hn : 0 < n ∧ n ≤ 1000000000) {R : Value → Vw → Prop} (hR : ∀ (k : Nat) s, k < n → RD w0 s b (p + 1) → s.del b = σ.del b → (∀ i, i ≠ b → s i = σ i) → R (.int .i64 (k : Nat)) s) : AC Tryz.prog w0 n_p_spec_l1Rd_pick [ptr b, .int .i64 (n : Nat)] σ R := by
  obtain ⟨u, q, ety, cap, bs, h1, h2, h3, h4, h5⟩ := h
  refine ac_p_spec_l1Rd_pick ?_
  unfold vc_p_spec_l1Rd_pick
  refine ⟨_, rfl, field_load (A := []) (C := []) (c := [u, .int .i64 (q : Nat)]) h1 h2 rfl rfl rfl fun g hg => ?_⟩
  rw [hg, pBin_add (by omega)]
  refine ⟨_, rfl, field_store (A := []) (C := []) (c := [u, .int .i64 (q : Nat)]) h2 rfl rfl (by show 1 < 2; omega) rfl ?_⟩
  simp only [List.nil_append, List.append_nil, List.set_cons_zero, List.set_cons_succ]
  generalize hs4 : σ.put b ⟨ety, [u, .int .i64 ((q : Int) + 1)], cap, (0, 0)⟩ = s4
  have hr4 : s4 b = some ⟨ety, [u, .int .i64 ((q : Int) + 1)], cap, (0, 0)⟩ := by rw [← hs4]; exact put_at
  have hd4 : s4.del b = σ.del b := by
    rw [← hs4]; funext i
    by_cases e : i = b
    · subst e; simp [Vw.del]
    · simp [Vw.del, Vw.put, e]
  have ho4 : ∀ i, i ≠ b → s4 i = σ i := fun i hi => by rw [← hs4, put_ne hi]
  have hu4 : RSl 1 RU8 (Av.get w0 s4) u bs := h4.mono (Keeps.le fun i r h => by cases h) fun _ _ h => h
  have hRD : RD w0 s4 b (p + 1) := ⟨u, q + 1, ety, cap, bs, h1, by rw [hr4]; rfl, by omega, h4, h5⟩
  have out : ∀ (k : Nat), k < n → R (.int .i64 (k : Nat)) s4 := fun k hk => hR k s4 hk hRD hd4 ho4
  clear hR hs4
  have ld0 : ∀ {K : (Nat → Value) → Prop}, (∀ g : Nat → Value, g 0 = u → K g) → pNil (ptr b) (pField 0 (ptr b) fun v => pLoad w0 1 v s4 K) := fun hK => ⟨_, rfl, field_load (A := []) (C := []) (c := [u, .int .i64 ((q : Int) + 1)]) h1 hr4 rfl rfl rfl hK⟩
  have ld1 : ∀ {K : (Nat → Value) → Prop}, (∀ g : Nat → Value, g 0 = .int .i64 ((q : Int) + 1) → K g) → pNil (ptr b) (pField 1 (ptr b) fun v => pLoad w0 1 v s4 K) := fun hK => ⟨_, rfl, field_load (A := []) (C := []) (c := [u, .int .i64 ((q : Int) + 1)]) h1 hr4 rfl rfl rfl hK⟩
  rw [pBin_lt, pIf_d]
  refine ⟨fun h => by omega, fun _ => ?_⟩
  refine ld0 fun g hg => ?_
  rw [hg, hu4.len, pBin_eq, pIf_d]
  refine ⟨fun _ => out 0 (by omega), fun hne => ?_⟩
  have hpos : 0 < bs.length := by omega
  refine ld1 fun g hg => ?_
  rw [hg, pBin_sub (by omega), show (q : Int) + 1 - 1 = (q : Nat) by omega]
  refine ld0 fun g hg => ?_
  rw [hg, hu4.len, pBin_lt, pIf_d]
  have byte : ∀ (j : Nat) (x : Nat), bs[j]? = some x → x ≤ 255 := fun j x hj => by
    obtain ⟨_, _, _, _, hh⟩ := h4
    obtain ⟨_, _, _, _, _, hx⟩ := hh j x hj
    exact hx.2
  refine ⟨fun hlt => ?_, fun hge => ?_⟩
  · refine ld0 fun g hg => ?_
    rw [hg]
    have hx := List.getElem?_eq_getElem (show q < bs.length by omega)
    generalize bs[q]'(by omega) = x at hx
    have hxb := byte q x hx
    refine hu4.at hx fun g hg => ?_
    obtain ⟨hg, _⟩ := hg
    simp only [expl, List.cons.injEq, and_true] at hg
    rw [hg, pConv_i64 (by omega), pBin_rem (by omega)]
    have : ((x : Nat) : Int) % ((n : Nat) : Int) = ((x % n : Nat) : Int) := by omega
    rw [this]
    exact out _ (Nat.mod_lt _ (by omega))
  · refine ld0 fun g hg => ?_
    rw [hg]
    refine ld0 fun g hg => ?_
    rw [hg, hu4.len, pBin_rem (by omega), show ((q : Nat) : Int) % ((bs.length : Nat) : Int) = ((q % bs.length : Nat) : Int) by omega]
    have hx := List.getElem?_eq_getElem (Nat.mod_lt q hpos)
    generalize bs[q % bs.length]'(Nat.mod_lt q hpos) = x at hx
    have hxb := byte _ x hx
    refine hu4.at hx fun g hg => ?_
    obtain ⟨hg, _⟩ := hg
    simp only [expl, List.cons.injEq, and_true] at hg
    rw [hg, pConv_i64 (by omega), pBin_mul (by omega)]
    refine ld0 fun g hg => ?_
    rw [hg, pBin_mul (by omega), pBin_add (by omega)]
    refine ld0 fun g hg => ?_
    have hm7 : (((q : Nat) : Int) * 7 + 3) % ((bs.length : Nat) : Int) = (((q * 7 + 3) % bs.length : Nat) : Int) := by
      have := Int.natCast_emod (q * 7 + 3) bs.length
      rw [show (((q * 7 + 3 : Nat)) : Int) = (q : Int) * 7 + 3 by omega] at this
      exact this.symm
    rw [hg, hu4.len, pBin_rem (by omega), hm7]
    have hy := List.getElem?_eq_getElem (Nat.mod_lt (q * 7 + 3) hpos)
    generalize bs[(q * 7 + 3) % bs.length]'(Nat.mod_lt (q * 7 + 3) hpos) = y at hy
    have hyb := byte _ y hy
    refine hu4.at hy fun g hg => ?_
    obtain ⟨hg, _⟩ := hg
    simp only [expl, List.cons.injEq, and_true] at hg
    rw [hg, pConv_i64 (by omega), pBin_mul (by omega), pBin_add (by omega), pBin_mul (by omega), pBin_add (by omega)]
    refine ld0 fun g hg => ?_
    have hq0 : ((q : Nat) : Int) / ((bs.length : Nat) : Int) = ((q / bs.length : Nat) : Int) := by omega
    have hq1 : q / bs.length ≤ q := Nat.div_le_self _ _
    rw [hg, hu4.len, pBin_quo (by omega), hq0]
    clear hq0
    generalize q / bs.length = z at hq1 ⊢
    rw [pBin_mul (by omega), pBin_add (by omega), pBin_quo (by omega)]
    refine pBin_xor (by omega) (by omega) fun c hc => ?_
    rw [pBin_rem (by omega)]
    obtain ⟨m, rfl⟩ : ∃ m : Nat, c = m := ⟨c.toNat, by omega⟩
    rw [show ((m : Nat) : Int) % ((n : Nat) : Int) = ((m % n : Nat) : Int) by omega]
    exact out _ (Nat.mod_lt _ (by omega))

theorem spec_of {b p : Nat} {w : Value} {xs : List ByteArray} (h : RD w0 σ b p) (hp : p ≤ 100000000) (hw : RSl 1 RS (Av.get w0 (σ.del b)) w xs) (hx : 0 < xs.length ∧ xs.length ≤ 1000000000) {R : Value → Vw → Prop} (hR : ∀ (x : ByteArray) s, x ∈ xs → RD w0 s b (p + 1) → s.del b = σ.del b → (∀ i, i ≠ b → s i = σ i) → R (.string x) s) : AC Tryz.prog w0 n_p_spec_l1Rd_of [ptr b, w] σ R := by
  refine ac_p_spec_l1Rd_of ?_
  unfold vc_p_spec_l1Rd_of
  rw [hw.len]
  refine spec_pick h hp hx fun k s hk hrd hd ho => ?_
  have hw' : RSl 1 RS (Av.get w0 s) w xs := hw.mono (by rw [← hd]; exact del_le) fun _ _ h => h
  have hkx := List.getElem?_eq_getElem hk
  refine RSl.at1 hw' hkx fun g hg _ => ?_
  rw [hg]
  exact hR _ s (List.mem_of_getElem? hkx) hrd hd ho
end
end Go.Proofs.YtkbhjejalkbogaaGreatDoor

/- Names, bytes and paths that are drawn. -/
set_option linter.unusedVariables false
set_option linter.unusedSimpArgs false
namespace Go.Proofs.YtkbhjejalkbogaaGreatDoor
open Go Go.Av Go.RowKit

theorem del_put_ne {σ : Vw} {b n : Nat} {r : Row} (h : n ≠ b) : (σ.put n r).del b = (σ.del b).put n r := by
  funext i
  by_cases e : i = b
  · subst e
    have : ¬ i = n := fun e => h e.symm
    simp [Vw.del, Vw.put, this]
  · simp [Vw.del, Vw.put, e]
theorem keeps_out {σ s : Vw} {b : Nat} (k : Keeps (σ.del b) (s.del b)) {i : Nat} {r : Row} (hi : i ≠ b) (h : σ i = some r) : s i = some r := by
  have := k i r (by rw [del_ne hi]; exact h)
  rw [del_ne hi] at this; exact this
theorem none_out {σ s : Vw} {b : Nat} (k : Keeps (σ.del b) (s.del b)) {i : Nat} (hi : i ≠ b) (h : s i = none) : σ i = none := by
  cases hs : σ i with
  | none => rfl
  | some r => rw [keeps_out k hi hs] at h; cases h

section
variable {w0 : World} {σ : Vw}

theorem RD.at {b p : Nat} (h : RD w0 σ b p) : σ b ≠ none := by obtain ⟨u, q, ety, cap, bs, h1, h2, _⟩ := h; rw [h2]; simp
/-- A new row beside the reader. -/
theorem RD.new {b p n : Nat} {r : Row} (h : RD w0 σ b p) (hn : σ n = none) : n ≠ b ∧ RD w0 (σ.put n r) b p ∧ Keeps (σ.del b) ((σ.put n r).del b) := by
  have hne : n ≠ b := fun e => h.at (e ▸ hn)
  have k : Keeps (σ.del b) ((σ.put n r).del b) := by rw [del_put_ne hne]; exact Keeps.put (by rw [del_ne hne]; exact hn)
  exact ⟨hne, h.keep (put_ne fun e => hne e.symm), k⟩
theorem row_strs {s : Vw} {b e c k : Nat} {z : Nat × Nat} {xs : List ByteArray} (hb : w0.heap.size ≤ b) (hr : s b = some ⟨e, xs.map Value.string, c, z⟩) (hx : ∀ x, x ∈ xs → x.size ≤ 9223372036854775807) (hk : xs.length ≤ k ∧ k ≤ 9223372036854775807) : RSl 1 RS (Av.get w0 s) (.slice (some ⟨b, 0, none⟩) xs.length k) xs := by
  refine ⟨some ⟨b, 0, none⟩, k, rfl, hk, fun j x hj => ⟨_, [.string x], rfl, rfl, fun i hi => ?_, rfl, hx x (List.mem_of_getElem? hj)⟩⟩
  have e : i = 0 := by omega
  subst e
  rw [addr_add, get_row hb hr]
  simp only [Nat.mul_one, Nat.add_zero, Nat.zero_add, List.getElem?_map, hj, Option.map_some]
  rfl
/-- One of some texts. -/
theorem of_lit {b p k : Nat} {xs : List ByteArray} (h : RD w0 σ b p) (hp : p ≤ 100000000) (hx : 0 < xs.length ∧ xs.length ≤ 1000) (hsz : ∀ x, x ∈ xs → x.size ≤ 1000000) (hk : xs.length = k) {cells : List Value} (hc : cells = xs.map Value.string) {R : Value → Vw → Prop} (hR : ∀ (x : ByteArray) s, x ∈ xs → RD w0 s b (p + 1) → Keeps (σ.del b) (s.del b) → R (.string x) s) :
    pNew w0 t_string cells σ (fun n0 s1 => AC Tryz.prog w0 n_p_spec_l1Rd_of [ptr b, .slice (some (Addr.mk n0 0 none)) k k] s1 R) := by
  intro n h1 h2
  subst hc hk
  obtain ⟨hne, hrd, kk⟩ := h.new (r := ⟨t_string, xs.map Value.string, (xs.map Value.string).length, (0, 0)⟩) h2
  refine spec_of hrd hp (row_strs h1 (by rw [del_ne hne]; exact put_at) (fun x hx => by have := hsz x hx; omega) (by omega)) (by omega) fun x s hx hrd' hd _ => hR x s hx hrd' (by rw [hd]; exact kk)

theorem spec_l4Name {b p : Nat} (h : RD w0 σ b p) (hp : p ≤ 100000000) {R : Value → Vw → Prop} (hR : ∀ (x : ByteArray) s, x.size ≤ 2 → RD w0 s b (p + 1) → Keeps (σ.del b) (s.del b) → R (.string x) s) : AC Tryz.prog w0 n_spec_l4Name [ptr b] σ R := by
  refine ac_spec_l4Name ?_
  unfold vc_spec_l4Name
  rw [pVal1 rfl, pVal1 rfl, pVal1 rfl, pVal1 rfl, pVal1 rfl]
  have hsz : ∀ x, x ∈ [(⟨#[97]⟩ : ByteArray), ⟨#[98]⟩, ⟨#[99]⟩, ⟨#[100, 49]⟩, ⟨#[101]⟩] → x.size ≤ 2 := by
    intro x hx
    simp at hx
    rcases hx with rfl | rfl | rfl | rfl | rfl <;> decide
  exact of_lit (xs := [(⟨#[97]⟩ : ByteArray), ⟨#[98]⟩, ⟨#[99]⟩, ⟨#[100, 49]⟩, ⟨#[101]⟩]) h hp (by simp) (fun x hx => by have := hsz x hx; omega) rfl rfl fun x s hx hrd k => hR x s (hsz x hx) hrd k

theorem spec_l1Many {s0 : ByteArray} {n : Nat} (hs : s0.size * n ≤ 1000000) (hs0 : s0.size ≤ 1000000) (hn : n ≤ 1000000) {R : Value → Vw → Prop} (hR : ∀ t : ByteArray, t.size ≤ s0.size * n → R (.string t) σ) : AC Tryz.prog w0 n_spec_l1Many [.string s0, .int .i64 (n : Nat)] σ R := by
  refine ac_spec_l1Many ?_
  unfold vc_spec_l1Many
  refine loop_rule (m := n) (fun m l st => ∃ (s out : ByteArray) (k : Nat), st = σ ∧ k ≤ m ∧ k ≤ n ∧ out.size + s.size * k ≤ s0.size * n ∧ l = [.string s, .int .i64 (k : Nat), .string out]) ?_ ⟨s0, ⟨#[]⟩, n, rfl, Nat.le_refl _, Nat.le_refl _, by show 0 + _ ≤ _; omega, rfl⟩
  rintro m l st L ⟨s, out, k, rfl, hk, hkn, hsz, rfl⟩ hL
  simp only [vget, List.getD_cons_zero, List.getD_cons_succ]
  rw [pBin_gt, pIf_d]
  refine ⟨fun hpos => ?_, fun _ => hR out (by omega)⟩
  have h1 : s.size ≤ s.size * k := Nat.le_mul_of_pos_right _ (by omega)
  have h2 : s.size * k = s.size * (k % 2) + 2 * (s.size * (k / 2)) := by
    have : k = k % 2 + 2 * (k / 2) := by omega
    conv => lhs; rw [this, Nat.mul_add]
    rw [Nat.mul_left_comm]
  have h3 : (s ++ s).size * (k / 2) = 2 * (s.size * (k / 2)) := by rw [ByteArray.size_append, ← Nat.two_mul, Nat.mul_assoc]
  have hq : ((k : Nat) : Int) / 2 = ((k / 2 : Nat) : Int) := by omega
  rw [pBin_rem (by omega), pBin_eq, pIf_d]
  refine ⟨fun hodd => ?_, fun heven => ?_⟩
  · have hk1 : k % 2 = 1 := by omega
    rw [hk1, Nat.mul_one] at h2
    rw [pBin_cat (by omega), pBin_cat (by omega), pBin_quo (by omega), hq]
    refine hL _ _ (m - 1) (by omega) ⟨s ++ s, out ++ s, k / 2, rfl, by omega, by omega, ?_, rfl⟩
    rw [h3, ByteArray.size_append]; omega
  · have hk1 : k % 2 = 0 := by omega
    rw [hk1, Nat.mul_zero] at h2
    rw [pBin_cat (by omega), pBin_quo (by omega), hq]
    refine hL _ _ (m - 1) (by omega) ⟨s ++ s, out, k / 2, rfl, by omega, by omega, ?_, rfl⟩
    rw [h3]; omega

theorem spec_l4Data {b p : Nat} (h : RD w0 σ b p) (hp : p ≤ 10000000) {R : Value → Vw → Prop} (hR : ∀ (x : ByteArray) s, x.size ≤ 1000 → RD w0 s b (p + 2) → Keeps (σ.del b) (s.del b) → R (.string x) s) : AC Tryz.prog w0 n_spec_l4Data [ptr b] σ R := by
  refine ac_spec_l4Data ?_
  unfold vc_spec_l4Data
  refine spec_pick (n := 25) h (by omega) (by omega) fun k s hk hrd hd _ => ?_
  have e1 : (⟨#[122]⟩ : ByteArray).size = 1 := rfl
  refine spec_l1Many (s0 := ⟨#[122]⟩) (n := k) (by rw [e1]; omega) (by rw [e1]; omega) (by omega) fun t ht => ?_
  rw [e1] at ht
  rw [pVal1 rfl, pVal1 rfl, pVal1 rfl, pVal1 rfl, pVal1 rfl, pVal1 rfl]
  have hsz : ∀ x, x ∈ [(⟨#[]⟩ : ByteArray), ⟨#[120]⟩, ⟨#[104, 101, 108, 108, 111]⟩, ⟨#[0, 255]⟩, ⟨#[48, 49, 50, 51, 52, 53, 54, 55, 56, 57]⟩, t] → x.size ≤ 24 := by
    intro x hx
    simp at hx
    rcases hx with rfl | rfl | rfl | rfl | rfl | rfl
    · decide
    · decide
    · decide
    · decide
    · decide
    · omega
  refine of_lit (xs := [(⟨#[]⟩ : ByteArray), ⟨#[120]⟩, ⟨#[104, 101, 108, 108, 111]⟩, ⟨#[0, 255]⟩, ⟨#[48, 49, 50, 51, 52, 53, 54, 55, 56, 57]⟩, t]) hrd (by omega) (by simp) (fun x hx => by have := hsz x hx; omega) rfl rfl fun x s' hx hrd' k' => hR x s' (by have := hsz x hx; omega) hrd' (by rw [← hd]; exact k')

theorem spec_l1Open {u : Value} {bs : List Nat} (h : RSl 1 RU8 (Av.get w0 (fun _ => none)) u bs) {R : Value → Vw → Prop} (hR : ∀ b s, RD w0 s b 0 → s.del b = σ → σ b = none → R (ptr b) s) : AC Tryz.prog w0 n_spec_l1Open [u] σ R := by
  refine ac_spec_l1Open ?_
  unfold vc_spec_l1Open
  have go : ∀ (v : Value) (cs : List Nat) (ety : Nat), RSl 1 RU8 (Av.get w0 (fun _ => none)) v cs → cs.length ≤ 2000 → pVal false 1 v (pVal true 2 (.agg (⟨[v, .int .i64 0]⟩)) (pNew w0 ety [v, .int .i64 0] σ (fun n3 s4 => R (.pointer (some (Addr.mk n3 0 none))) s4))) := fun v cs ety hv hl => by
    rw [pVal1 hv.one, pVal_2 hv.one rfl]
    intro n h1 h2
    have hd : (σ.put n ⟨ety, [v, .int .i64 0], 2, (0, 0)⟩).del n = σ := del_put h2
    exact hR n _ ⟨v, 0, ety, 2, cs, h1, put_at, Nat.le_refl _, hv, hl⟩ hd h2
  rw [h.len, pBin_gt, pIf_d]
  refine ⟨fun hgt => ?_, fun hle => go u bs _ h (by omega)⟩
  refine RSl.take (σ := fun _ => none) (j := 2000) h (by omega) fun v' hv' => go v' _ _ hv' (by rw [List.length_take]; omega)
end
end Go.Proofs.YtkbhjejalkbogaaGreatDoor

/- Paths that are drawn in a tree. -/
set_option linter.unusedVariables false
set_option linter.unusedSimpArgs false
namespace Go.Proofs.YtkbhjejalkbogaaGreatDoor
open Go Go.Av Go.RowKit

theorem kid_sz : ∀ {n : Nat} {y k : Tr}, IsT n y → k ∈ kidsOf y → szT n k ≤ szT n y
  | 0, _, _, ⟨_, _, h⟩, _ => h.elim
  | n + 1, .mk d m t ns ks, k, h, hk => by
    have h1 := sz_up (isT_kid h hk)
    have h2 := sumBy_mem (f := szT n) (show k ∈ ks from hk)
    rw [h1]
    show _ ≤ t.size + (ns.length + sumS ns) + (ks.length + sumBy (szT n) ks)
    omega
theorem names_sz {n : Nat} {y : Tr} (h : IsT n y) : (namesOf y).length ≤ szT n y := by
  obtain _ | n := n
  · obtain ⟨_, _, h⟩ := h; exact h.elim
  · obtain ⟨d, m, t, ns, ks⟩ := y
    show ns.length ≤ t.size + (ns.length + sumS ns) + (ks.length + sumBy (szT n) ks)
    omega
theorem kids_sz {n : Nat} {y : Tr} (h : IsT n y) : (kidsOf y).length ≤ szT n y := by
  obtain _ | n := n
  · obtain ⟨_, _, h⟩ := h; exact h.elim
  · obtain ⟨d, m, t, ns, ks⟩ := y
    show ks.length ≤ t.size + (ns.length + sumS ns) + (ks.length + sumBy (szT n) ks)
    omega

section
variable {w0 : World} {σ : Vw}

set_option maxHeartbeats 4000000 in
theorem spec_l4Path {b p n : Nat} {es : List Value} {x : Tr} (h : RD w0 σ b p) (hp : p ≤ 10000000) (ht : RT n (Av.get w0 (σ.del b)) es x) (hsz : szT n x ≤ 1000000000) {R : Value → Vw → Prop} (hR : ∀ (v : Value) (ps : List ByteArray) s, RD w0 s b (p + 20) → Keeps (σ.del b) (s.del b) → RSl 1 RS (Av.get w0 (s.del b)) v ps → (0 < ps.length ∧ ps.length ≤ 4) → R v s) : AC Tryz.prog w0 n_spec_l4Path [ptr b, .agg ⟨es⟩] σ R := by
  have ht0 := ht
  obtain ⟨c0, c1, c2, c3, c4, rfl, hp5⟩ := ht.shape
  refine ac_spec_l4Path ?_
  unfold vc_spec_l4Path cs_spec_l4Path_1 cs_spec_l4Path_2
  rw [hp5]
  simp only [cellOf_agg, List.getD_cons_zero, List.getD_cons_succ]
  intro nb h1 h2
  obtain ⟨hne, hrd, kk⟩ := h.new (r := ⟨t_string, [], 0, (0, 0)⟩) h2
  rw [hp5]
  refine loop_rule (m := 4) (fun m l s => ∃ (v : Value) (F : List Nat) (out : List ByteArray) (y : Tr) (d0 d1 d2 d3 d4 : Value) (q : Nat), m + out.length = 4 ∧ RD w0 s b q ∧ q ≤ p + 5 * out.length ∧ Keeps (σ.del b) (s.del b) ∧ OAcc w0 t_string 1 OStr s F v out ∧ (∀ i, i ∈ F → σ i = none ∧ i ≠ b) ∧
      RT n (Av.get w0 (σ.del b)) [d0, d1, d2, d3, d4] y ∧ szT n y ≤ 1000000000 ∧ l = [ptr b, v, d0, d1, d2, d3, d4]) ?_
    ⟨_, [nb], [], x, c0, c1, c2, c3, c4, p, rfl, hrd, by simp, kk, OAcc.new h1, fun i hi => by rw [List.mem_singleton.1 hi]; exact ⟨h2, hne⟩, ht0, hsz, rfl⟩
  rintro m l s L ⟨v, F, out, y, d0, d1, d2, d3, d4, q, hm, hrd, hq, ks, ho, hF, hy, hys, rfl⟩ hL
  simp only [vget, List.getD_cons_zero, List.getD_cons_succ]
  have okS := ok_str w0
  have hlen : ∀ {K : Value → Prop}, pLen v K ↔ K (.int .i64 (out.length : Nat)) := (ho.osl.rel okS).len
  -- what is handed back
  have ret : ∀ {s' : Vw} {v' : Value} {F' : List Nat} {out' : List ByteArray} {q' : Nat}, RD w0 s' b q' → q' ≤ p + 20 → Keeps (σ.del b) (s'.del b) → OAcc w0 t_string 1 OStr s' F' v' out' → (∀ i, i ∈ F' → σ i = none ∧ i ≠ b) → (0 < out'.length ∧ out'.length ≤ 4) → R v' s' := fun {s' v' F' out' q'} hrd' hq' k' ho' hF' hl' => by
    refine hR v' out' s' (hrd'.more hq') k' ?_ hl'
    exact (OSl.frame okS ho'.osl fun i hi => del_ne (hF' i hi).2).rel okS
  rw [hlen, pBin_lt, pIf_d]
  have hy0 := hy
  obtain ⟨uu, ww, hcells, _, _, hnm, hkd, hp5'⟩ := hy.cells
  simp only [List.cons.injEq, and_true] at hcells
  obtain ⟨rfl, rfl, rfl, rfl, rfl⟩ := hcells
  have hn1 := names_sz hy.isT
  have hk1 := kids_sz hy.isT
  have hkB : RSl 5 (RB (RT n) (Av.get w0 (σ.del b))) (Av.get w0 (σ.del b)) d4 (kidsOf y) := hkd.imp fun es x hx => hx
  have mv : ∀ {s' : Vw}, Keeps (s.del b) (s'.del b) → OAcc w0 t_string 1 OStr s' F v out := fun {s'} k => OAcc.frame okS ho fun i hi => by
    cases hs : s i with
    | none => exact absurd hs (ho.dom okS i hi).2
    | some r => exact keeps_out k (hF i hi).2 hs
  obtain ⟨AP, hAP⟩ : ∃ AP : Value → Vw → Prop, AP = fun nmv s' => pVal false 1 nmv ((allOne [nmv]) ∧ (pAppend w0 t_string 1 16 v 1 [nmv] s' (fun v21 s22 => AC Tryz.prog w0 n_spec_l1Find ([.agg (⟨[.bool (isDir y), .int .i64 (modeOf y), .string (dataOf y), d3, d4]⟩), nmv]) s22 (fun v23 s24 => pBin Tryz.prog 3 .lss v23 (.int .i64 0) (fun v25 => pIf v25 (R v21 s24) (pLen d4 (fun v26 => pBin Tryz.prog 3 .geq v23 v26 (fun v27 => pIf v27 (R v21 s24) (pIndexAddr 5 d4 v23 (fun v28 => pLoad w0 5 v28 s24 (fun g29 => pVal true 5 (.agg (⟨[g29 0, g29 1, g29 2, g29 3, g29 4]⟩)) (L [ptr b, v21, g29 0, g29 1, g29 2, g29 3, g29 4] s24)))))))))))) := ⟨_, rfl⟩
  have APP : ∀ (nm : ByteArray) (s' : Vw) (q' : Nat), RD w0 s' b q' → q' ≤ p + 5 * out.length + 5 → Keeps (s.del b) (s'.del b) → out.length < 4 → nm.size ≤ 9223372036854775807 → AP (.string nm) s' := fun nm s' q' hrd' hq' k' hol hnm' => by
    rw [hAP]
    show pVal false 1 (.string nm) _
    rw [pVal1 rfl]
    refine (mv k').one okS (f := []) (y := nm) ⟨rfl, rfl, hnm'⟩ (fun i hi => by cases hi) (by omega) (by omega) fun v2 F2 s2 k2 o2 f2 => ?_
    have hbF : b ∉ F := fun hb => (hF b hb).2 rfl
    have hs2b : s2 b = s' b := by
      cases hb' : s' b with
      | none => exact absurd hb' hrd'.at
      | some r => exact k2 b r hb' hbF
    have ks' := ks.trans k'
    have K2 : Keeps (σ.del b) (s2.del b) := fun i r hi => by
      obtain ⟨e1, e2⟩ := del_some hi
      rw [del_ne e1]
      exact k2 i r (keeps_out ks' e1 e2) fun hi' => by rw [(hF i hi').1] at e2; cases e2
    have hF2 : ∀ i, i ∈ F2 → σ i = none ∧ i ≠ b := fun i hi => by
      rcases f2 i hi with e | e | e
      · exact hF i e
      · cases e
      · have hib : i ≠ b := fun e' => hrd'.at (e' ▸ e)
        exact ⟨none_out ks' hib e, hib⟩
    have hrd2 := hrd'.keep hs2b
    have hleB : Le (Av.get w0 (σ.del b)) (Av.get w0 s2) := (K2.trans del_keeps).le
    obtain ⟨dd, mm, tt, nn, kk'⟩ := y
    have hol2 : (out ++ [nm]).length = out.length + 1 := by simp
    refine spec_Find (mono_rt n _ _ _ _ hleB hy0) ?_
    rw [pBin_lt, pIf_d]
    refine ⟨fun _ => ret hrd2 (by omega) K2 o2 hF2 (by omega), fun hpos => ?_⟩
    rw [hkd.len, pBin_ge, pIf_d]
    refine ⟨fun _ => ret hrd2 (by omega) K2 o2 hF2 (by omega), fun hlt2 => ?_⟩
    obtain ⟨j, hj⟩ : ∃ j : Nat, placeI (nidx nn nm) = (j : Nat) := ⟨(placeI (nidx nn nm)).toNat, by omega⟩
    rw [hj] at hlt2 ⊢
    have hx := List.getElem?_eq_getElem (show j < (kidsOf (.mk dd mm tt nn kk')).length by omega)
    refine (hkB.mono hleB fun _ _ h => h).at hx fun g hg => ?_
    simp only [expl] at hg
    have hg : RT n (Av.get w0 (σ.del b)) [g 0, g 1, g 2, g 3, g 4] _ := hg
    obtain ⟨_, _, _, _, _, _, _, hpg⟩ := hg.five
    rw [hpg]
    refine hL _ _ (m - 1) (by omega) ⟨v2, F2, out ++ [nm], _, g 0, g 1, g 2, g 3, g 4, q', by omega, hrd2, by omega, K2, o2, hF2, hg, ?_, rfl⟩
    have := kid_sz hy0.isT (List.mem_of_getElem? hx)
    omega
  have STEP : ∀ (s' : Vw) (q' : Nat), RD w0 s' b q' → q' ≤ p + 5 * out.length + 1 → Keeps (s.del b) (s'.del b) → out.length < 4 →
      AC Tryz.prog w0 n_spec_l4Name [ptr b] s' (fun v9 s10 => pLen d3 (fun v11 => pBin Tryz.prog 3 .gtr v11 (.int .i64 0) (fun v12 => pIf v12 (AC Tryz.prog w0 n_p_spec_l1Rd_pick [ptr b, .int .i64 4] s10 (fun v13 s14 => pBin Tryz.prog 3 .gtr v13 (.int .i64 0) (fun v15 => pIf v15 (pLen d3 (fun v16 => AC Tryz.prog w0 n_p_spec_l1Rd_pick [ptr b, v16] s14 (fun v17 s18 => pIndexAddr 1 d3 v17 (fun v19 => pLoad w0 1 v19 s18 (fun g20 => AP (g20 0) s18)))))
        (AP v9 s14)))) (AP v9 s10)))) := fun s' q' hrd' hq' k' hol => by
    refine spec_l4Name hrd' (by omega) fun nm s1 hnm1 hrd1 k1 => ?_
    rw [hnm.len, pBin_gt, pIf_d]
    refine ⟨fun hpos => ?_, fun _ => APP nm s1 _ hrd1 (by omega) (k'.trans k1) hol (by omega)⟩
    refine spec_pick (n := 4) hrd1 (by omega) (by omega) fun j s2 hj hrd2 hd2 _ => ?_
    have k2 : Keeps (s1.del b) (s2.del b) := by rw [hd2]; exact Keeps.refl _
    rw [pBin_gt, pIf_d]
    refine ⟨fun _ => ?_, fun _ => APP nm s2 _ hrd2 (by omega) ((k'.trans k1).trans k2) hol (by omega)⟩
    rw [hnm.len]
    refine spec_pick hrd2 (by omega) (by omega) fun j3 s3 hj3 hrd3 hd3 _ => ?_
    have k3 : Keeps (s2.del b) (s3.del b) := by rw [hd3]; exact Keeps.refl _
    have K3 := ((k'.trans k1).trans k2).trans k3
    have hx := List.getElem?_eq_getElem hj3
    refine RSl.at1 (hnm.mono ((ks.trans K3).trans del_keeps).le fun _ _ h => h) hx fun g hg hgs => ?_
    rw [hg]
    exact APP _ s3 _ hrd3 (by omega) K3 hol hgs
  clear APP
  subst hAP
  refine ⟨fun hlt => ?_, fun hge => ret hrd (by omega) ks ho hF (by omega)⟩
  rw [hlen, pBin_eq, pIf_d]
  refine ⟨fun _ => STEP s q hrd (by omega) (Keeps.refl _) (by omega), fun hne0 => ?_⟩
  refine spec_pick (n := 3) hrd (by omega) (by omega) fun j s1 hj hrd1 hd1 _ => ?_
  have k1 : Keeps (s.del b) (s1.del b) := by rw [hd1]; exact Keeps.refl _
  rw [pBin_gt, pIf_d]
  refine ⟨fun _ => STEP s1 _ hrd1 (by omega) k1 (by omega), fun _ => ?_⟩
  exact ret hrd1 (by omega) (ks.trans k1) (mv k1) hF (by omega)
end
end Go.Proofs.YtkbhjejalkbogaaGreatDoor

/- Calls that are drawn: their last turn. -/
set_option linter.unusedVariables false
set_option linter.unusedSimpArgs false
namespace Go.Proofs.YtkbhjejalkbogaaGreatDoor
open Go Go.Av Go.RowKit

section
variable {w0 : World} {σ : Vw}

/-- One of some numbers. -/
theorem int_lit {b p m : Nat} {xs : List Int} (h : RD w0 σ b p) (hp : p ≤ 10000000) (hx : 0 < xs.length ∧ xs.length ≤ 1000) (hm : xs.length = m) {cells : List Value} (hc : cells = xs.map (Value.int .i64)) {ety : Nat} {K : Value → Vw → Prop} (hK : ∀ (x : Int) s, x ∈ xs → RD w0 s b (p + 1) → Keeps (σ.del b) (s.del b) → K (.int .i64 x) s) :
    pNew w0 ety cells σ (fun n s12 => AC Tryz.prog w0 n_p_spec_l1Rd_pick [ptr b, .int .i64 (m : Nat)] s12 (fun v13 s14 => pIndexAddr 1 (.slice (some (Addr.mk n 0 none)) m m) v13 (fun v15 => pLoad w0 1 v15 s14 (fun g16 => K (g16 0) s14)))) := by
  intro n h1 h2
  subst hc hm
  obtain ⟨hne, hrd, kk⟩ := h.new (r := ⟨ety, xs.map (Value.int .i64), (xs.map (Value.int .i64)).length, (0, 0)⟩) h2
  refine spec_pick hrd (by omega) (by omega) fun j s hj hrd' hd ho => ?_
  have hr : s n = some ⟨ety, xs.map (Value.int .i64), (xs.map (Value.int .i64)).length, (0, 0)⟩ := by rw [ho n hne]; exact put_at
  refine ⟨⟨n, 0, none⟩, xs.length, xs.length, .i64, j, rfl, rfl, by omega, by omega, ?_⟩
  refine ⟨_, fun _ => .int .i64 xs[j], rfl, fun i hi => ?_, hK _ s (List.getElem_mem hj) hrd' (by rw [hd]; exact kk)⟩
  have e : i = 0 := by omega
  subst e
  rw [add_add, addr_add, get_row h1 hr]
  simp only [Int.toNat_natCast, Nat.mul_one, Nat.add_zero, Nat.zero_add, List.getElem?_map, List.getElem?_eq_getElem hj, Option.map_some]

/-- What a drawn call is. -/
abbrev OutC (w0 : World) (σ : Vw) (b p : Nat) (R : Value → Vw → Prop) : Prop := ∀ cs (c : Cl) s, RD w0 s b p → Keeps (σ.del b) (s.del b) → RCl (Av.get w0 (s.del b)) cs c → c.2.2.2.2.size ≤ 1000 → R (.agg ⟨cs⟩) s
/-- A copy of a path in a row of our own. -/
theorem path_more' {b q n : Nat} {v : Value} {ps : List ByteArray} (h : RD w0 σ b q) (hv : RSl 1 RS (Av.get w0 (σ.del b)) v ps) (hl : ps.length ≤ 1000) (h1 : w0.heap.size ≤ n) (h2 : σ n = none) {K : Value → Vw → Prop} (hK : ∀ v' F s, RD w0 s b q → Keeps (σ.del b) (s.del b) → OAcc w0 t_string 1 OStr s F v' ps → (∀ i, i ∈ F → σ i = none ∧ i ≠ b) → K v' s) :
    pAppendS w0 t_string 1 16 (.slice (some (Addr.mk n 0 none)) 0 0) v (σ.put n ⟨t_string, [], 0, (0, 0)⟩) K := by
  obtain ⟨hne, hrd, kk⟩ := h.new (r := ⟨t_string, [], 0, (0, 0)⟩) h2
  refine (OAcc.new (w0 := w0) (σ := σ) (ety := t_string) (n := 1) (O := OStr) h1).all (ok_str w0) hv (kk.trans del_keeps).le (fun es y hy => ⟨rfl, hy⟩) (by simp; omega) (by omega) fun u' F1 s1 k1 o1 g1 => ?_
  rw [List.nil_append] at o1
  have hb1 : s1 b = (σ.put n ⟨t_string, [], 0, (0, 0)⟩) b := by
    cases hb : (σ.put n ⟨t_string, [], 0, (0, 0)⟩ : Vw) b with
    | none => exact absurd hb hrd.at
    | some r => exact k1 b r hb (fun e => hne (List.mem_singleton.1 e).symm)
  have K1 : Keeps (σ.del b) (s1.del b) := fun i r hi => by
    obtain ⟨e1, e2⟩ := del_some hi
    rw [del_ne e1]
    exact k1 i r (keeps_out kk e1 e2) fun hi' => by rw [List.mem_singleton.1 hi', h2] at e2; cases e2
  refine hK u' F1 s1 (hrd.keep hb1) K1 o1 fun i hi => ?_
  rcases g1 i hi with e | e
  · rw [List.mem_singleton.1 e]; exact ⟨h2, hne⟩
  · have hib : i ≠ b := fun e' => hrd.at (e' ▸ e)
    exact ⟨none_out kk hib e, hib⟩
theorem path_more {b q : Nat} {v : Value} {ps : List ByteArray} (h : RD w0 σ b q) (hv : RSl 1 RS (Av.get w0 (σ.del b)) v ps) (hl : ps.length ≤ 1000) {K : Value → Vw → Prop} (hK : ∀ v' F s, RD w0 s b q → Keeps (σ.del b) (s.del b) → OAcc w0 t_string 1 OStr s F v' ps → (∀ i, i ∈ F → σ i = none ∧ i ≠ b) → K v' s) :
    pNew w0 t_string [] σ (fun n21 s22 => pAppendS w0 t_string 1 16 (.slice (some (Addr.mk n21 0 none)) 0 0) v s22 K) := fun n h1 h2 => path_more' h hv hl h1 h2 hK
/-- A name is added to it. -/
theorem path_add {b q : Nat} {σ1 : Vw} {v : Value} {F : List Nat} {ps : List ByteArray} {nm : ByteArray} (h : RD w0 σ b q) (k0 : Keeps (σ1.del b) (σ.del b)) (ho : OAcc w0 t_string 1 OStr σ F v ps) (hF : ∀ i, i ∈ F → σ1 i = none ∧ i ≠ b) (hl : ps.length ≤ 1000) (hn : nm.size ≤ 1000000) {K : Value → Vw → Prop} (hK : ∀ v' s, RD w0 s b q → Keeps (σ1.del b) (s.del b) → RSl 1 RS (Av.get w0 (s.del b)) v' (ps ++ [nm]) → K v' s) :
    pVal false 1 (.string nm) (allOne [.string nm] ∧ pAppend w0 t_string 1 16 v 1 [.string nm] σ (fun v29 s30 => pVal false 1 v29 (K v29 s30))) := by
  rw [pVal1 rfl]
  refine ho.one (ok_str w0) (f := []) (y := nm) ⟨rfl, rfl, by omega⟩ (fun i hi => by cases hi) (by omega) (by omega) fun v2 F2 s2 k2 o2 f2 => ?_
  rw [pVal1 (OSl.one' o2.osl)]
  have hs2b : s2 b = σ b := by
    cases hb' : σ b with
    | none => exact absurd hb' h.at
    | some r => exact k2 b r hb' fun hb => (hF b hb).2 rfl
  have K2 : Keeps (σ1.del b) (s2.del b) := fun i r hi => by
    obtain ⟨e1, e2⟩ := del_some hi
    rw [del_ne e1]
    exact k2 i r (keeps_out k0 e1 e2) fun hi' => by rw [(hF i hi').1] at e2; cases e2
  have hF2 : ∀ i, i ∈ F2 → i ≠ b := fun i hi => by
    rcases f2 i hi with e | e | e
    · exact (hF i e).2
    · cases e
    · exact fun e' => h.at (e' ▸ e)
  exact hK v2 s2 (h.keep hs2b) K2 ((OSl.frame (ok_str w0) o2.osl fun i hi => del_ne (hF2 i hi)).rel (ok_str w0))

/-- The last turn of a drawn call. -/
theorem call_tail {b q : Nat} {k a : Int} {pv w : Value} {ps ts : List ByteArray} {d : ByteArray} (h : RD w0 σ b q) (hq : q ≤ 5000000) (hk : i64r k) (hv : RSl 1 RS (Av.get w0 (σ.del b)) pv ps) (hpl : ps.length ≤ 100) (hw : RSl 1 RS (Av.get w0 (σ.del b)) w ts) (ha : i64r a) (hdl : d.size ≤ 1000) {R : Value → Vw → Prop} (hR : OutC w0 σ b (q + 3) R) :
    AC Tryz.prog w0 n_p_spec_l1Rd_pick [ptr b, .int .i64 40] σ (fun v8 s9 => pBin Tryz.prog 3 .eql v8 (.int .i64 0) (fun v10 => pIf v10 (pVal false 1 (.int .i64 0) (pVal false 1 (.int .i64 7) (pVal false 1 (.int .i64 (-1)) (pNew w0 t_int [.int .i64 0, .int .i64 7, .int .i64 (-1)] s9 (fun n11 s12 => AC Tryz.prog w0 n_p_spec_l1Rd_pick [ptr b, .int .i64 3] s12 (fun v13 s14 => pIndexAddr 1 (.slice (some (Addr.mk n11 0 none)) 3 3) v13 (fun v15 => pLoad w0 1 v15 s14 (fun g16 => pVal false 1 (g16 0) (pVal true 5 (.agg (⟨[g16 0, pv, w, .int .i64 a, .string d]⟩)) (R (.agg (⟨[g16 0, pv, w, .int .i64 a, .string d]⟩)) s14)))))))))) (pBin Tryz.prog 3 .eql v8 (.int .i64 1) (fun v17 => pIf v17 (pNew w0 t_string [] s9 (fun n18 s19 => pVal false 1 (.slice (some (Addr.mk n18 0 none)) 0 0) (pVal true 5 (.agg (⟨[.int .i64 k, .slice (some (Addr.mk n18 0 none)) 0 0, w, .int .i64 a, .string d]⟩)) (R (.agg (⟨[.int .i64 k, .slice (some (Addr.mk n18 0 none)) 0 0, w, .int .i64 a, .string d]⟩)) s19)))) (pBin Tryz.prog 3 .eql v8 (.int .i64 2) (fun v20 => pIf v20 (pNew w0 t_string [] s9 (fun n21 s22 => pAppendS w0 t_string 1 16 (.slice (some (Addr.mk n21 0 none)) 0 0) pv s22 (fun v23 s24 => pVal false 1 (.string ({ data := #[] })) (pVal false 1 (.string ({ data := #[65] })) (pVal false 1 (.string ({ data := #[116, 111, 111, 108, 111, 110, 103] })) (pVal false 1 (.string ({ data := #[120] })) (pVal false 1 (.string ({ data := #[121] })) (pNew w0 t_string ([.string ({ data := #[] }), .string ({ data := #[65] }), .string ({ data := #[116, 111, 111, 108, 111, 110, 103] }), .string ({ data := #[120] }), .string ({ data := #[121] })]) s24 (fun n25 s26 => AC Tryz.prog w0 n_p_spec_l1Rd_of [ptr b, .slice (some (Addr.mk n25 0 none)) 5 5] s26 (fun v27 s28 => pVal false 1 v27 ((allOne [v27]) ∧ (pAppend w0 t_string 1 16 v23 1 [v27] s28 (fun v29 s30 => pVal false 1 v29 (pVal true 5 (.agg (⟨[.int .i64 k, v29, w, .int .i64 a, .string d]⟩)) (R (.agg (⟨[.int .i64 k, v29, w, .int .i64 a, .string d]⟩)) s30))))))))))))))) (pBin Tryz.prog 3 .eql v8 (.int .i64 3) (fun pv1 => pIf pv1 (pVal false 1 (.int .i64 (-1)) (pVal false 1 (.int .i64 8) (pVal false 1 (.int .i64 24) (pVal false 1 (.int .i64 25) (pNew w0 t_int [.int .i64 (-1), .int .i64 8, .int .i64 24, .int .i64 25] s9 (fun n32 s33 => AC Tryz.prog w0 n_p_spec_l1Rd_pick [ptr b, .int .i64 4] s33 (fun pv4 s35 => pIndexAddr 1 (.slice (some (Addr.mk n32 0 none)) 4 4) pv4 (fun pv6 => pLoad w0 1 pv6 s35 (fun g37 => pVal false 1 (g37 0) (pVal true 5 (.agg (⟨[.int .i64 k, pv, w, g37 0, .string d]⟩)) (R (.agg (⟨[.int .i64 k, pv, w, g37 0, .string d]⟩)) s35))))))))))) (pBin Tryz.prog 3 .eql v8 (.int .i64 4) (fun pv8 => pIf pv8 (AC Tryz.prog w0 n_p_spec_l1Rd_pick [ptr b, .int .i64 2] s9 (fun pv9 s40 => pBin Tryz.prog 3 .add (.int .i64 24) pv9 (fun v41 => AC Tryz.prog w0 n_spec_l1Many ([.string ({ data := #[113] }), v41]) s40 (fun v42 s43 => pVal false 1 v42 (pVal true 5 (.agg (⟨[.int .i64 k, pv, w, .int .i64 a, v42]⟩)) (R (.agg (⟨[.int .i64 k, pv, w, .int .i64 a, v42]⟩)) s43)))))) (pVal true 5 (.agg (⟨[.int .i64 k, pv, w, .int .i64 a, .string d]⟩)) (R (.agg (⟨[.int .i64 k, pv, w, .int .i64 a, .string d]⟩)) s9)))))))))))) := by
  have fin : ∀ (s : Vw) (k' a' : Int) (v' : Value) (ps' : List ByteArray) (d' : ByteArray) (q' : Nat), RD w0 s b q' → q' ≤ q + 3 → Keeps (σ.del b) (s.del b) → RSl 1 RS (Av.get w0 (s.del b)) v' ps' → i64r k' → i64r a' → d'.size ≤ 1000 → pVal true 5 (.agg (⟨[.int .i64 k', v', w, .int .i64 a', .string d']⟩)) (R (.agg (⟨[.int .i64 k', v', w, .int .i64 a', .string d']⟩)) s) := fun s k' a' v' ps' d' q' hrd hq' ks hv' hk' ha' hd' => by
    have hw' := hw.mono ks.le fun _ _ h => h
    rw [pVal_5 rfl hv'.one hw'.one rfl rfl]
    exact hR _ (k', ps', ts, a', d') s (hrd.more hq') ks ⟨v', w, rfl, hv', hw', hk', ha', by show d'.size ≤ _; omega⟩ hd'
  refine spec_pick (n := 40) h (by omega) (by omega) fun j s9 hj hrd9 hd9 ho9 => ?_
  have k9 : Keeps (σ.del b) (s9.del b) := by rw [hd9]; exact Keeps.refl _
  have hv9 := hv.mono k9.le fun _ _ h => h
  rw [pBin_eq, pIf_d]
  refine ⟨fun _ => ?_, fun _ => ?_⟩
  · rw [pVal1 rfl, pVal1 rfl, pVal1 rfl]
    refine int_lit (xs := [0, 7, -1]) hrd9 (by omega) (by simp) rfl rfl (K := fun x s => pVal false 1 x (pVal true 5 (.agg (⟨[x, pv, w, .int .i64 a, .string d]⟩)) (R (.agg (⟨[x, pv, w, .int .i64 a, .string d]⟩)) s))) fun x s hx hrd ks => ?_
    rw [pVal1 rfl]
    have hx : i64r x := by simp at hx; rcases hx with rfl | rfl | rfl <;> omega
    exact fin s x a pv ps d _ hrd (by omega) (k9.trans ks) (hv9.mono ks.le fun _ _ h => h) hx ha hdl
  rw [pBin_eq, pIf_d]
  refine ⟨fun _ => ?_, fun _ => ?_⟩
  · intro n h1 h2
    obtain ⟨hne, hrd, kk⟩ := hrd9.new (r := ⟨t_string, [], 0, (0, 0)⟩) h2
    rw [pVal1 rfl]
    refine fin _ k a _ [] d _ hrd (by omega) (k9.trans kk) ?_ hk ha hdl
    exact ⟨_, 0, rfl, by simp, fun j x h => by simp at h⟩
  rw [pBin_eq, pIf_d]
  refine ⟨fun _ => ?_, fun _ => ?_⟩
  · refine path_more hrd9 hv9 (by omega) fun v' F s hrd ks ho hF => ?_
    rw [pVal1 rfl, pVal1 rfl, pVal1 rfl, pVal1 rfl, pVal1 rfl]
    have hsz : ∀ x, x ∈ [(⟨#[]⟩ : ByteArray), ⟨#[65]⟩, ⟨#[116, 111, 111, 108, 111, 110, 103]⟩, ⟨#[120]⟩, ⟨#[121]⟩] → x.size ≤ 7 := by
      intro x hx
      simp at hx
      rcases hx with rfl | rfl | rfl | rfl | rfl <;> decide
    refine of_lit (xs := [(⟨#[]⟩ : ByteArray), ⟨#[65]⟩, ⟨#[116, 111, 111, 108, 111, 110, 103]⟩, ⟨#[120]⟩, ⟨#[121]⟩]) hrd (by omega) (by simp) (fun x hx => by have := hsz x hx; omega) rfl rfl fun x s2 hx hrd2 k2 => ?_
    have hxs := hsz x hx
    have ho2 : OAcc w0 t_string 1 OStr s2 F v' ps := OAcc.frame (ok_str w0) ho fun i hi => by
      cases hs : s i with
      | none => exact absurd hs (ho.dom (ok_str w0) i hi).2
      | some r => exact keeps_out k2 (hF i hi).2 hs
    refine path_add (σ1 := s9) hrd2 (ks.trans k2) ho2 hF (by omega) (by omega) fun v3 s3 hrd3 k3 hv3 => ?_
    exact fin s3 k a v3 _ d _ hrd3 (by omega) (k9.trans k3) hv3 hk ha hdl
  rw [pBin_eq, pIf_d]
  refine ⟨fun _ => ?_, fun _ => ?_⟩
  · rw [pVal1 rfl, pVal1 rfl, pVal1 rfl, pVal1 rfl]
    refine int_lit (xs := [-1, 8, 24, 25]) hrd9 (by omega) (by simp) rfl rfl (K := fun x s => pVal false 1 x (pVal true 5 (.agg (⟨[.int .i64 k, pv, w, x, .string d]⟩)) (R (.agg (⟨[.int .i64 k, pv, w, x, .string d]⟩)) s))) fun x s hx hrd ks => ?_
    rw [pVal1 rfl]
    have hx : i64r x := by simp at hx; rcases hx with rfl | rfl | rfl | rfl <;> omega
    exact fin s k x pv ps d _ hrd (by omega) (k9.trans ks) (hv9.mono ks.le fun _ _ h => h) hk hx hdl
  rw [pBin_eq, pIf_d]
  refine ⟨fun _ => ?_, fun _ => fin s9 k a pv ps d _ hrd9 (by omega) k9 hv9 hk ha hdl⟩
  refine spec_pick (n := 2) hrd9 (by omega) (by omega) fun j2 s4 hj2 hrd4 hd4 _ => ?_
  have k4 : Keeps (s9.del b) (s4.del b) := by rw [hd4]; exact Keeps.refl _
  rw [pBin_add (by omega), show (24 : Int) + (j2 : Nat) = ((24 + j2 : Nat) : Int) by omega]
  have e1 : (⟨#[113]⟩ : ByteArray).size = 1 := rfl
  refine spec_l1Many (s0 := ⟨#[113]⟩) (n := 24 + j2) (by rw [e1]; omega) (by rw [e1]; omega) (by omega) fun t ht => ?_
  rw [e1] at ht
  rw [pVal1 rfl]
  exact fin s4 k a pv ps t _ hrd4 (by omega) (k9.trans k4) (hv9.mono k4.le fun _ _ h => h) hk ha (by omega)
end
end Go.Proofs.YtkbhjejalkbogaaGreatDoor

/- Calls that are drawn; calls done one behind another. -/
set_option linter.unusedVariables false
set_option linter.unusedSimpArgs false
namespace Go.Proofs.YtkbhjejalkbogaaGreatDoor
open Go Go.Av Go.RowKit

section
variable {w0 : World} {σ : Vw}

theorem OutC.from {b p q : Nat} {s : Vw} {R : Value → Vw → Prop} (hR : OutC w0 σ b p R) (k : Keeps (σ.del b) (s.del b)) (hq : q ≤ p) : OutC w0 s b q R := fun cs c s' h1 h2 h3 h4 => hR cs c s' (h1.more hq) (k.trans h2) h3 h4
theorem nil_strs {rd : Addr → Option Value} : RSl 1 RS rd (.slice none 0 0) [] := ⟨none, 0, rfl, by simp, fun j x h => by simp at h⟩

set_option maxRecDepth 40000 in
set_option maxHeartbeats 16000000 in
theorem spec_l4Call {b p n : Nat} {es : List Value} {x : Tr} (h : RD w0 σ b p) (hp : p ≤ 1000000) (ht : RT n (Av.get w0 (σ.del b)) es x) (hsz : szT n x ≤ 1000000000) {R : Value → Vw → Prop} (hR : OutC w0 σ b (p + 60) R) : AC Tryz.prog w0 n_spec_l4Call [ptr b, .agg ⟨es⟩] σ R := by
  have ht0 := ht
  obtain ⟨c0, c1, c2, c3, c4, rfl, hp5⟩ := ht.shape
  refine ac_spec_l4Call ?_
  unfold vc_spec_l4Call cs_spec_l4Call_1 cs_spec_l4Call_3 cs_spec_l4Call_2 cs_spec_l4Call_4
  rw [hp5]
  simp only [cellOf_agg, List.getD_cons_zero, List.getD_cons_succ]
  refine spec_pick (n := 6) h (by omega) (by omega) fun j s1 hj hrd1 hd1 _ => ?_
  have k1 : Keeps (σ.del b) (s1.del b) := by rw [hd1]; exact Keeps.refl _
  rw [pBin_add (by omega), show (1 : Int) + (j : Nat) = ((1 + j : Nat) : Int) by omega]
  refine spec_l4Path hrd1 (by omega) (mono_rt n _ _ _ _ k1.le ht0) hsz fun v3 ps s4 hrd4 k4 hv hpl => ?_
  have K4 := k1.trans k4
  have ht4 := mono_rt n _ _ _ _ K4.le ht0
  rw [pVal1 rfl, pVal1 hv.one, pVal_5 rfl hv.one rfl rfl rfl]
  generalize hkk : ((1 + j : Nat) : Int) = kk
  have hk : i64r kk := by omega
  have hn4 : RSl 1 RS (Av.get w0 (s4.del b)) (.slice none 0 0) [] := nil_strs
  have e0 : (⟨#[]⟩ : ByteArray).size ≤ 1000 := by decide
  have R4 := OutC.from hR K4 (q := p + 1 + 20 + 3) (by omega)
  refine pBin_eq.2 (pIf_d.2 ⟨fun hyes => ?_, fun hno => ?_⟩)
  · skip
    refine pIf_d.2 ⟨fun _ => ?_, fun hc => absurd hyes hc⟩
    refine spec_pick (n := 8) hrd4 (by omega) (by omega) fun j2 s5 hj2 hrd5 hd5 _ => ?_
    have k5 : Keeps (s4.del b) (s5.del b) := by rw [hd5]; exact Keeps.refl _
    rw [pVal1 rfl]
    exact call_tail hrd5 (by omega) hk (hv.mono k5.le fun _ _ h => h) (by omega) nil_strs (by omega) e0 (OutC.from hR (K4.trans k5) (by omega))
  · skip
    refine pBin_eq.2 (pIf_d.2 ⟨fun hyes => ?_, fun hno => ?_⟩)
    · skip
      refine spec_pick (n := 8) hrd4 (by omega) (by omega) fun j2 s5 hj2 hrd5 hd5 _ => ?_
      have k5 : Keeps (s4.del b) (s5.del b) := by rw [hd5]; exact Keeps.refl _
      rw [pVal1 rfl]
      exact call_tail hrd5 (by omega) hk (hv.mono k5.le fun _ _ h => h) (by omega) nil_strs (by omega) e0 (OutC.from hR (K4.trans k5) (by omega))
    · skip
      refine pBin_eq.2 (pIf_d.2 ⟨fun hyes => ?_, fun hno => ?_⟩)
      · skip
        refine pIf_d.2 ⟨fun _ => ?_, fun hc => absurd hyes hc⟩
        refine spec_pick (n := 4) hrd4 (by omega) (by omega) fun j2 s5 hj2 hrd5 hd5 _ => ?_
        have k5 : Keeps (s4.del b) (s5.del b) := by rw [hd5]; exact Keeps.refl _
        refine spec_pick (n := 4) hrd5 (by omega) (by omega) fun j3 s6 hj3 hrd6 hd6 _ => ?_
        have k6 : Keeps (s5.del b) (s6.del b) := by rw [hd6]; exact Keeps.refl _
        have hmul : j2 * j3 ≤ 3 * 3 := Nat.mul_le_mul (by omega) (by omega)
        have hcast : ((j2 : Nat) : Int) * ((j3 : Nat) : Int) = ((j2 * j3 : Nat) : Int) := (Int.natCast_mul _ _).symm
        rw [pBin_mul (by rw [hcast]; omega), hcast]
        generalize j2 * j3 = jj at hmul
        rw [pVal1 rfl, pBin_eq, pIf_d]
        refine ⟨fun _ => ?_, fun _ => call_tail hrd6 (by omega) hk (hv.mono (k5.trans k6).le fun _ _ h => h) (by omega) nil_strs (by omega) e0 (OutC.from hR (K4.trans (k5.trans k6)) (by omega))⟩
        refine spec_l4Data hrd6 (by omega) fun dt s7 hdt hrd7 k7 => ?_
        rw [pVal1 rfl]
        exact call_tail hrd7 (by omega) hk (hv.mono ((k5.trans k6).trans k7).le fun _ _ h => h) (by omega) nil_strs (by omega) hdt (OutC.from hR (K4.trans ((k5.trans k6).trans k7)) (by omega))
      · skip
        refine pBin_eq.2 (pIf_d.2 ⟨fun hyes => ?_, fun hno => ?_⟩)
        · skip
          refine spec_pick (n := 4) hrd4 (by omega) (by omega) fun j2 s5 hj2 hrd5 hd5 _ => ?_
          have k5 : Keeps (s4.del b) (s5.del b) := by rw [hd5]; exact Keeps.refl _
          refine spec_pick (n := 4) hrd5 (by omega) (by omega) fun j3 s6 hj3 hrd6 hd6 _ => ?_
          have k6 : Keeps (s5.del b) (s6.del b) := by rw [hd6]; exact Keeps.refl _
          have hmul : j2 * j3 ≤ 3 * 3 := Nat.mul_le_mul (by omega) (by omega)
          have hcast : ((j2 : Nat) : Int) * ((j3 : Nat) : Int) = ((j2 * j3 : Nat) : Int) := (Int.natCast_mul _ _).symm
          rw [pBin_mul (by rw [hcast]; omega), hcast]
          generalize j2 * j3 = jj at hmul
          rw [pVal1 rfl, pBin_eq, pIf_d]
          refine ⟨fun _ => ?_, fun _ => call_tail hrd6 (by omega) hk (hv.mono (k5.trans k6).le fun _ _ h => h) (by omega) nil_strs (by omega) e0 (OutC.from hR (K4.trans (k5.trans k6)) (by omega))⟩
          refine spec_l4Data hrd6 (by omega) fun dt s7 hdt hrd7 k7 => ?_
          rw [pVal1 rfl]
          exact call_tail hrd7 (by omega) hk (hv.mono ((k5.trans k6).trans k7).le fun _ _ h => h) (by omega) nil_strs (by omega) hdt (OutC.from hR (K4.trans ((k5.trans k6).trans k7)) (by omega))
        · skip
          refine pBin_eq.2 (pIf_d.2 ⟨fun hyes => ?_, fun hno => ?_⟩)
          · skip
            refine spec_l4Path hrd4 (by omega) ht4 hsz fun v5 qs s5 hrd5 k5 hv5 hql => ?_
            have hv3 := hv.mono k5.le fun _ _ h => h
            rw [pVal1 hv5.one]
            refine spec_pick (n := 2) hrd5 (by omega) (by omega) fun j2 s6 hj2 hrd6 hd6 _ => ?_
            have k6 : Keeps (s5.del b) (s6.del b) := by rw [hd6]; exact Keeps.refl _
            rw [pBin_eq, pIf_d]
            refine ⟨fun _ => ?_, fun _ => call_tail hrd6 (by omega) hk (hv3.mono k6.le fun _ _ h => h) (by omega) (hv5.mono k6.le fun _ _ h => h) (by omega) e0 (OutC.from hR (K4.trans (k5.trans k6)) (by omega))⟩
            intro n1 h1 h2
            rw [hv5.len, pBin_sub (by omega), show ((qs.length : Nat) : Int) - 1 = ((qs.length - 1 : Nat) : Int) by omega]
            refine RSl.take (hv5.mono k6.le fun _ _ h => h) (by omega) fun v7 hv7 => ?_
            refine path_more' hrd6 hv7 (by rw [List.length_take]; omega) h1 h2 fun v8 F s8 hrd8 k8 ho8 hF8 => ?_
            refine spec_l4Name hrd8 (by omega) fun nm s9 hnm hrd9 k9 => ?_
            have ho9 : OAcc w0 t_string 1 OStr s9 F v8 (qs.take (qs.length - 1)) := OAcc.frame (ok_str w0) ho8 fun i hi => by
              cases hs : s8 i with
              | none => exact absurd hs (ho8.dom (ok_str w0) i hi).2
              | some r => exact keeps_out k9 (hF8 i hi).2 hs
            refine path_add (σ1 := s6) hrd9 (k8.trans k9) ho9 hF8 (by rw [List.length_take]; omega) (by omega) fun v9 s10 hrd10 k10 hv10 => ?_
            exact call_tail hrd10 (by omega) hk ((hv3.mono k6.le fun _ _ h => h).mono k10.le fun _ _ h => h) (by omega) hv10 (by omega) e0 (OutC.from hR (K4.trans ((k5.trans k6).trans k10)) (by omega))
          · skip
            exact call_tail hrd4 (by omega) hk hv (by omega) hn4 (by omega) e0 R4
end
end Go.Proofs.YtkbhjejalkbogaaGreatDoor

/- Calls done one behind another; trees that are drawn. -/
set_option linter.unusedVariables false
set_option linter.unusedSimpArgs false
set_option maxRecDepth 20000
namespace Go.Proofs.YtkbhjejalkbogaaGreatDoor
open Go Go.Av Go.RowKit

section
variable {w0 : World} {σ : Vw}

theorem keeps_del {s : Vw} {b : Nat} (k : Keeps σ s) : Keeps (σ.del b) (s.del b) := fun i r hi => by
  obtain ⟨e1, e2⟩ := del_some hi
  rw [del_ne e1]; exact k i r e2
theorem RD.kept {b p : Nat} {s : Vw} (h : RD w0 σ b p) (k : Keeps σ s) : RD w0 s b p := by
  refine h.keep ?_
  cases hb : σ b with
  | none => exact absurd hb h.at
  | some r => exact k b r hb
/-- What a drawn tree is. -/
abbrev OutTR (w0 : World) (σ : Vw) (b p N S : Nat) (R : Value → Vw → Prop) : Prop := ∀ es y s, RD w0 s b p → Keeps (σ.del b) (s.del b) → RT N (Av.get w0 (s.del b)) es y → szT N y ≤ S → R (.agg ⟨es⟩) s
theorem TreeDo_rd {b p n : Nat} {es cs : List Value} {x : Tr} {c : Cl} (h : RD w0 σ b p) (ht : RT n (Av.get w0 (σ.del b)) es x) (hs : szT n x ≤ 1000000000) (hc : RCl (Av.get w0 (σ.del b)) cs c) (hdl : c.2.2.2.2.size ≤ 1000000) {R : Value → Vw → Prop}
    (hR : ∀ ey y s k, Keeps (σ.del b) (s.del b) → RD w0 s b p → RT 11 (Av.get w0 (s.del b)) ey y → szT 11 y ≤ 40000000 → (0 ≤ k ∧ k ≤ 7) → R (.tuple ⟨[.agg ⟨ey⟩, .int .i64 k]⟩) s) : AC Tryz.prog w0 n_spec_TreeDo [.agg ⟨es⟩, .agg ⟨cs⟩] σ R :=
  h.hide (R := fun v s => Keeps (σ.del b) s ∧ ∃ ey y k, v = .tuple ⟨[.agg ⟨ey⟩, .int .i64 k]⟩ ∧ RT 11 (Av.get w0 s) ey y ∧ szT 11 y ≤ 40000000 ∧ (0 ≤ k ∧ k ≤ 7))
    (spec_TreeDo ht hs hc hdl fun ey y s k k1 r1 r2 r3 => ⟨k1, ey, y, k, rfl, r1, r2, r3⟩)
    (fun v s k hrd ⟨_, ey, y, c, e, r1, r2, r3⟩ => by subst e; exact hR ey y s c k hrd r1 r2 r3) fun v s h => h.1

theorem spec_l4Calls {b p N S k : Nat} {es : List Value} {x : Tr} (h : RD w0 σ b p) (hp : p + 60 * k ≤ 900000) (hk : k ≤ 100) (hN : 11 ≤ N) (hS : 40000000 ≤ S ∧ S ≤ 900000000) (ht : RT N (Av.get w0 (σ.del b)) es x) (hs : szT N x ≤ S) {R : Value → Vw → Prop} (hR : OutTR w0 σ b (p + 60 * k) N S R) : AC Tryz.prog w0 n_spec_l4Calls [ptr b, .agg ⟨es⟩, .int .i64 (k : Nat)] σ R := by
  have ht0 := ht
  obtain ⟨c0, c1, c2, c3, c4, rfl, hp5⟩ := ht.shape
  refine ac_spec_l4Calls ?_
  unfold vc_spec_l4Calls
  rw [hp5]
  simp only [cellOf_agg, List.getD_cons_zero, List.getD_cons_succ]
  refine loop_rule (m := k) (fun m l s => ∃ (i q : Nat) (d0 d1 d2 d3 d4 : Value) (y : Tr), m = i ∧ i ≤ k ∧ q + 60 * i ≤ p + 60 * k ∧ RD w0 s b q ∧ Keeps (σ.del b) (s.del b) ∧ RT N (Av.get w0 (s.del b)) [d0, d1, d2, d3, d4] y ∧ szT N y ≤ S ∧
      l = [ptr b, .int .i64 (i : Nat), d0, d1, d2, d3, d4, .bool false, .int .i64 0, .string ⟨#[]⟩, .slice none 0 0, .slice none 0 0]) ?_
    ⟨k, p, c0, c1, c2, c3, c4, x, rfl, Nat.le_refl _, Nat.le_refl _, h, Keeps.refl _, ht0, hs, rfl⟩
  rintro m l s L ⟨i, q, d0, d1, d2, d3, d4, y, rfl, hi, hq, hrd, ks, hy, hys, rfl⟩ hL
  simp only [vget, List.getD_cons_zero, List.getD_cons_succ]
  rw [pBin_gt, pIf_d]
  have hy0 := hy
  have e5 := hy.shape
  have hp6 : ∀ A : Prop, pVal true 5 (.agg ⟨[d0, d1, d2, d3, d4]⟩) A ↔ A := by
    obtain ⟨_, _, _, _, _, e, hh⟩ := hy.shape
    cases e; exact hh
  refine ⟨fun hpos => ?_, fun _ => ?_⟩
  · refine spec_l4Call hrd (by omega) hy0 (by omega) fun cs c s1 hrd1 k1 hc hcs => ?_
    refine TreeDo_rd hrd1 (mono_rt _ _ _ _ _ k1.le hy0) (by omega) hc (by omega) fun ey z s2 cd k2 hrd2 hz hzs hcd => ?_
    have hz0 := hz
    obtain ⟨f0, f1, f2, f3, f4, rfl, hp7⟩ := hz.shape
    rw [pExtract_s rfl, pExtract_s rfl, hp7, pBin_eq, pIf_d]
    simp only [cellOf_agg, List.getD_cons_zero, List.getD_cons_succ]
    have hzN : RT N (Av.get w0 (s2.del b)) [f0, f1, f2, f3, f4] z := RT_le hN hz0
    have hzsN : szT N z ≤ S := by rw [sz_more hz0.isT hN]; omega
    refine ⟨fun _ => ?_, fun _ => ?_⟩
    · rw [hp7, pBin_sub (by omega)]
      exact hL _ _ (m - 1) (by omega) ⟨m - 1, q + 60, f0, f1, f2, f3, f4, z, rfl, by omega, by omega, hrd2, (ks.trans k1).trans k2, hzN, hzsN, by rw [show ((m : Nat) : Int) - 1 = ((m - 1 : Nat) : Int) by omega]⟩
    · rw [pBin_sub (by omega)]
      exact hL _ _ (m - 1) (by omega) ⟨m - 1, q + 60, d0, d1, d2, d3, d4, y, rfl, by omega, by omega, hrd2, (ks.trans k1).trans k2, mono_rt _ _ _ _ _ (k1.trans k2).le hy0, hys, by rw [show ((m : Nat) : Int) - 1 = ((m - 1 : Nat) : Int) by omega]⟩
  · show pVal true 5 (.agg ⟨[d0, d1, d2, d3, d4]⟩) _
    rw [hp6]
    exact hR _ y s (hrd.more (by omega)) ks hy0 hys

theorem i64_zero : i64r 0 := by omega
theorem i64_two : i64r 2 := by omega
theorem sz_dir0 {n : Nat} {m : Int} : szT n (.mk true m ⟨#[]⟩ [] []) = 0 := by
  cases n with
  | zero => rfl
  | succ n => rfl
theorem RT_dir0 (n : Nat) (rd : Addr → Option Value) {m : Int} (hm : -9223372036854775808 ≤ m ∧ m ≤ 9223372036854775807) : RT (n + 1) rd [.bool true, .int .i64 m, .string ⟨#[]⟩, .slice none 0 0, .slice none 0 0] (.mk true m ⟨#[]⟩ [] []) :=
  ⟨_, _, rfl, hm, by show 0 ≤ _; omega, ⟨none, 0, rfl, by simp, fun j x h => by simp at h⟩, ⟨none, 0, rfl, by simp, fun j x h => by simp at h⟩⟩

set_option maxHeartbeats 4000000 in
theorem spec_l4Tree {b p : Nat} (h : RD w0 σ b p) (hp : p ≤ 800000) {R : Value → Vw → Prop} (hR : OutTR w0 σ b (p + 700) 11 40000000 R) : AC Tryz.prog w0 n_spec_l4Tree [ptr b] σ R := by
  refine ac_spec_l4Tree ?_
  unfold vc_spec_l4Tree cs_spec_l4Tree_1
  refine spec_pick (n := 8) h (by omega) (by omega) fun j s1 hj hrd1 hd1 _ => ?_
  have k1 : Keeps (σ.del b) (s1.del b) := by rw [hd1]; exact Keeps.refl _
  refine spec_pick (n := 2) hrd1 (by omega) (by omega) fun j2 s2 hj2 hrd2 hd2 _ => ?_
  have k2 : Keeps (s1.del b) (s2.del b) := by rw [hd2]; exact Keeps.refl _
  have hmul : j * j2 ≤ 7 * 1 := Nat.mul_le_mul (by omega) (by omega)
  have hcast : ((j : Nat) : Int) * ((j2 : Nat) : Int) = ((j * j2 : Nat) : Int) := (Int.natCast_mul _ _).symm
  rw [pBin_mul (by rw [hcast]; omega), hcast, pVal1 rfl, pVal1 rfl, pVal_5 rfl rfl rfl rfl rfl]
  generalize j * j2 = jj at hmul
  refine spec_pick (n := 12) hrd2 (by omega) (by omega) fun k s3 hk hrd3 hd3 _ => ?_
  have k3 : Keeps (s2.del b) (s3.del b) := by rw [hd3]; exact Keeps.refl _
  have K3 := (k1.trans k2).trans k3
  refine loop_rule (m := k) (fun m l s => ∃ (i q : Nat) (d0 d1 d2 d3 d4 : Value) (y : Tr), m = i ∧ i ≤ k ∧ q + 25 * i ≤ p + 3 + 25 * k ∧ RD w0 s b q ∧ Keeps (σ.del b) (s.del b) ∧ RT 11 (Av.get w0 (s.del b)) [d0, d1, d2, d3, d4] y ∧ szT 11 y ≤ 40000000 ∧
      l = [ptr b, .int .i64 (i : Nat), .bool false, .int .i64 0, .string ⟨#[]⟩, .slice none 0 0, .slice none 0 0, d0, d1, d2, d3, d4]) ?_
    ⟨k, p + 1 + 1 + 1, _, _, _, _, _, _, rfl, Nat.le_refl _, by omega, hrd3, K3, RT_dir0 10 _ (m := ((jj : Nat) : Int)) (by omega), by rw [sz_dir0]; omega, rfl⟩
  rintro m l s L ⟨i, q, d0, d1, d2, d3, d4, y, rfl, hi, hq, hrd, ks, hy, hys, rfl⟩ hL
  simp only [vget, List.getD_cons_zero, List.getD_cons_succ]
  have hy0 := hy
  have hp6 : ∀ A : Prop, pVal true 5 (.agg ⟨[d0, d1, d2, d3, d4]⟩) A ↔ A := by
    obtain ⟨_, _, _, _, _, e, hh⟩ := hy.shape
    cases e; exact hh
  rw [pBin_gt, pIf_d]
  refine ⟨fun hpos => ?_, fun _ => ?_⟩
  · refine spec_pick (n := 2) hrd (by omega) (by omega) fun j3 s4 hj3 hrd4 hd4 _ => ?_
    have k4 : Keeps (s.del b) (s4.del b) := by rw [hd4]; exact Keeps.refl _
    rw [pBin_add (by omega), show (1 : Int) + (j3 : Nat) = ((1 + j3 : Nat) : Int) by omega]
    refine spec_l4Path hrd4 (by omega) (mono_rt _ _ _ _ _ k4.le hy0) (by omega) fun pv ps s5 hrd5 k5 hv hpl => ?_
    rw [pVal1 rfl, pVal1 hv.one, pVal_5 rfl hv.one rfl rfl rfl]
    have K5 := (ks.trans k4).trans k5
    -- a call that is done
    have DO : ∀ (s6 : Vw) (q6 : Nat) (d : ByteArray), RD w0 s6 b q6 → q6 + 25 * (m - 1) ≤ p + 3 + 25 * k → Keeps (s5.del b) (s6.del b) → d.size ≤ 1000 →
        AC Tryz.prog w0 n_spec_TreeDo ([.agg (⟨[d0, d1, d2, d3, d4]⟩), .agg (⟨[.int .i64 ((1 + j3 : Nat) : Int), pv, .slice none 0 0, .int .i64 0, .string d]⟩)]) s6 (fun v19 s20 => pExtract v19 0 (fun v21 => pExtract v19 1 (fun v22 => pVal true 5 v21 (pBin Tryz.prog 3 .eql v22 (.int .i64 0) (fun v23 => pIf v23 (pVal true 5 (.agg (⟨[cellOf v21 0, cellOf v21 1, cellOf v21 2, cellOf v21 3, cellOf v21 4]⟩)) (pBin Tryz.prog 3 .sub (.int .i64 (m : Nat)) (.int .i64 1) (fun v24 => L [ptr b, v24, .bool false, .int .i64 0, .string ⟨#[]⟩, .slice none 0 0, .slice none 0 0, cellOf v21 0, cellOf v21 1, cellOf v21 2, cellOf v21 3, cellOf v21 4] s20))) (pBin Tryz.prog 3 .sub (.int .i64 (m : Nat)) (.int .i64 1) (fun v25 => L [ptr b, v25, .bool false, .int .i64 0, .string ⟨#[]⟩, .slice none 0 0, .slice none 0 0, d0, d1, d2, d3, d4] s20))))))) := by
      intro s6 q6 d hrd6 hq6 k6 hd
      have kk := (k4.trans k5).trans k6
      refine TreeDo_rd hrd6 (mono_rt _ _ _ _ _ kk.le hy0) (by omega) (c := (((1 + j3 : Nat) : Int), ps, [], 0, d)) ⟨pv, _, rfl, hv.mono k6.le fun _ _ h => h, nil_strs, by show i64r _; omega, i64_zero, by show d.size ≤ _; omega⟩ (by show d.size ≤ _; omega) fun ey z s7 cd k7 hrd7 hz hzs hcd => ?_
      have hz0 := hz
      obtain ⟨f0, f1, f2, f3, f4, rfl, hp7⟩ := hz.shape
      rw [pExtract_s rfl, pExtract_s rfl, hp7, pBin_eq, pIf_d]
      simp only [cellOf_agg, List.getD_cons_zero, List.getD_cons_succ]
      refine ⟨fun _ => ?_, fun _ => ?_⟩
      · rw [hp7, pBin_sub (by omega)]
        exact hL _ _ (m - 1) (by omega) ⟨m - 1, q6, f0, f1, f2, f3, f4, z, rfl, by omega, by omega, hrd7, (ks.trans kk).trans k7, hz0, by omega, by rw [show ((m : Nat) : Int) - 1 = ((m - 1 : Nat) : Int) by omega]⟩
      · rw [pBin_sub (by omega)]
        exact hL _ _ (m - 1) (by omega) ⟨m - 1, q6, d0, d1, d2, d3, d4, y, rfl, by omega, by omega, hrd7, (ks.trans kk).trans k7, mono_rt _ _ _ _ _ (kk.trans k7).le hy0, hys, by rw [show ((m : Nat) : Int) - 1 = ((m - 1 : Nat) : Int) by omega]⟩
    rw [pBin_eq, pIf_d]
    refine ⟨fun _ => ?_, fun _ => DO s5 _ ⟨#[]⟩ hrd5 (by omega) (Keeps.refl _) (by decide)⟩
    refine spec_l4Data hrd5 (by omega) fun d s6 hd hrd6 k6 => ?_
    rw [pVal1 rfl]
    exact DO s6 _ d hrd6 (by omega) k6 hd
  · show AC Tryz.prog w0 n_p_spec_l1Rd_pick [ptr b, .int .i64 6] s _
    refine spec_pick (n := 6) hrd (by omega) (by omega) fun j4 s4 hj4 hrd4 hd4 _ => ?_
    have k4 : Keeps (s.del b) (s4.del b) := by rw [hd4]; exact Keeps.refl _
    refine spec_l4Calls hrd4 (by omega) (by omega) (Nat.le_refl _) (S := 40000000) (by omega) (mono_rt _ _ _ _ _ k4.le hy0) hys fun ey z s5 hrd5 k5 hz hzs => ?_
    have hz0 := hz
    obtain ⟨f0, f1, f2, f3, f4, rfl, hp7⟩ := hz.shape
    rw [hp7]
    simp only [cellOf_agg, List.getD_cons_zero, List.getD_cons_succ]
    exact hR _ z s5 (hrd5.more (by omega)) ((ks.trans k4).trans k5) hz0 hzs

theorem spec_l4Full {b p : Nat} (h : RD w0 σ b p) (hp : p ≤ 800000) {R : Value → Vw → Prop} (hR : OutTR w0 σ b (p + 700) 11 40000000 R) : AC Tryz.prog w0 n_spec_l4Full [ptr b] σ R := by
  refine ac_spec_l4Full ?_
  unfold vc_spec_l4Full
  rw [pVal1 rfl, pVal_5 rfl rfl rfl rfl rfl]
  refine loop_rule (m := 30) (fun m l s => ∃ (i q : Nat) (d0 d1 d2 d3 d4 : Value) (y : Tr), m + i = 30 ∧ q ≤ p + i ∧ RD w0 s b q ∧ Keeps (σ.del b) (s.del b) ∧ RT 11 (Av.get w0 (s.del b)) [d0, d1, d2, d3, d4] y ∧ szT 11 y ≤ 40000000 ∧
      l = [ptr b, .int .i64 (i : Nat), .bool false, .int .i64 0, .string ⟨#[]⟩, .slice none 0 0, .slice none 0 0, d0, d1, d2, d3, d4]) ?_
    ⟨0, p, _, _, _, _, _, _, rfl, by omega, h, Keeps.refl _, RT_dir0 10 _ (m := 0) (by omega), by rw [sz_dir0]; omega, rfl⟩
  rintro m l s L ⟨i, q, d0, d1, d2, d3, d4, y, hmi, hq, hrd, ks, hy, hys, rfl⟩ hL
  simp only [vget, List.getD_cons_zero, List.getD_cons_succ]
  have hy0 := hy
  have hp6 : ∀ A : Prop, pVal true 5 (.agg ⟨[d0, d1, d2, d3, d4]⟩) A ↔ A := by
    obtain ⟨_, _, _, _, _, e, hh⟩ := hy.shape
    cases e; exact hh
  refine spec_pick (n := 3) hrd (by omega) (by omega) fun j s1 hj hrd1 hd1 _ => ?_
  have k1 : Keeps (s.del b) (s1.del b) := by rw [hd1]; exact Keeps.refl _
  rw [pBin_sub (by omega), pBin_lt, pIf_d]
  refine ⟨fun hlt => ?_, fun _ => ?_⟩
  · rw [pBin_add (by omega), show (100 : Int) + (i : Nat) = ((100 + i : Nat) : Int) by omega]
    refine spec_l1Dec (by omega) fun s2 k2 => ?_
    have hrd2 := hrd1.kept k2
    have hz10 := decZ_nat (100 + i)
    have hsz := (decN_size (100 + i)).2
    rw [pBin_cat (by rw [hz10]; show 1 + _ ≤ _; omega), pVal1 rfl]
    intro n h1 h2
    obtain ⟨hne, hrd3, kk⟩ := hrd2.new (r := ⟨t_string, [.string (⟨#[102]⟩ ++ decZ ((100 + i : Nat) : Int))], 1, (0, 0)⟩) h2
    rw [pVal1 rfl, pVal1 rfl]
    have hrow := row_strs (xs := [⟨#[102]⟩ ++ decZ ((100 + i : Nat) : Int)]) (k := 1) (s := (s2.put n ⟨t_string, [.string (⟨#[102]⟩ ++ decZ ((100 + i : Nat) : Int))], 1, (0, 0)⟩).del b) h1 (by rw [del_ne hne]; exact put_at) (fun x hx => by
      rw [List.mem_singleton.1 hx, ByteArray.size_append, hz10]; show 1 + _ ≤ _; omega) (by simp)
    have K3 := (k1.trans (keeps_del k2)).trans kk
    refine TreeDo_rd hrd3 (mono_rt _ _ _ _ _ K3.le hy0) (by omega) (c := (2, [⟨#[102]⟩ ++ decZ ((100 + i : Nat) : Int)], [], 0, ⟨#[]⟩)) ⟨_, _, rfl, hrow, nil_strs, i64_two, i64_zero, by show 0 ≤ _; omega⟩ (by show 0 ≤ _; omega) fun ey z s7 cd k7 hrd7 hz hzs hcd => ?_
    have hz0 := hz
    obtain ⟨f0, f1, f2, f3, f4, rfl, hp7⟩ := hz.shape
    rw [pExtract_s rfl, pExtract_s rfl, hp7]
    simp only [cellOf_agg, List.getD_cons_zero, List.getD_cons_succ]
    rw [pBin_add (by omega)]
    exact hL _ _ (m - 1) (by omega) ⟨i + 1, q + 1, f0, f1, f2, f3, f4, z, by omega, by omega, hrd7, (ks.trans K3).trans k7, hz0, by omega, by simp⟩
  · show pVal true 5 (.agg ⟨[d0, d1, d2, d3, d4]⟩) _
    rw [hp6]
    exact hR _ y s1 (hrd1.more (by omega)) (ks.trans k1) (mono_rt _ _ _ _ _ k1.le hy0) hys
end
end Go.Proofs.YtkbhjejalkbogaaGreatDoor

/- A tree that is drawn and spoilt: a copy in rows of our own that is written. -/
set_option linter.unusedVariables false
set_option linter.unusedSimpArgs false
set_option maxRecDepth 20000
namespace Go.Av
open Go Go.RowKit
/-- A view without some rows. -/
def Vw.delF (σ : Vw) (F : List Nat) : Vw := fun i => if i ∈ F then none else σ i
theorem delF_in {σ : Vw} {F : List Nat} {i : Nat} (h : i ∈ F) : (σ.delF F) i = none := by simp [Vw.delF, h]
theorem delF_out {σ : Vw} {F : List Nat} {i : Nat} (h : i ∉ F) : (σ.delF F) i = σ i := by simp [Vw.delF, h]
theorem delF_keeps {σ : Vw} {F : List Nat} : Keeps (σ.delF F) σ := fun i r h => by
  by_cases hi : i ∈ F
  · rw [delF_in hi] at h; cases h
  · rw [delF_out hi] at h; exact h
theorem delF_some {σ : Vw} {F : List Nat} {i : Nat} {r : Row} (h : (σ.delF F) i = some r) : i ∉ F ∧ σ i = some r := by
  by_cases hi : i ∈ F
  · rw [delF_in hi] at h; cases h
  · rw [delF_out hi] at h; exact ⟨hi, h⟩
section
variable {w0 : World} {σ : Vw} {α : Type}
/-- Elements in rows of their own are read where they lie. -/
theorem OAcc.to_base {ety n : Nat} {Rel : (Addr → Option Value) → List Value → α → Prop} {O : Vw → List Nat → List Value → α → Prop} (ok : OOk w0 n Rel O) {F D : List Nat} {v : Value} {xs : List α} (h : OAcc w0 ety n O σ F v xs) (hD : ∀ i, i ∈ F → i ∉ D) :
    ∃ F2, (∀ i, i ∈ F2 → i ∈ F) ∧ OAcc w0 ety n (OB Rel (Av.get w0 (σ.delF (D ++ F2)))) σ F2 v xs := by
  obtain ⟨h1, h2, ⟨rfl, rfl, rfl⟩ | ⟨b, cap, css, Fs, g1, g2, g3, g4, g5, g6, g7, g8⟩⟩ := h
  · exact ⟨[], fun i h => h, OAcc.nil⟩
  · subst g7
    refine ⟨[b], fun i h => by rw [List.mem_singleton.1 h]; exact List.mem_cons_self, h1, by simp, .inr ⟨b, cap, css, List.replicate xs.length [], g1, g2, g3, g4, g5, by simp, by simp, fun j c x f e1 e2 e3 => ?_⟩⟩
    rw [List.getElem?_replicate] at e3
    split at e3
    · cases e3
      refine ⟨rfl, ?_⟩
      have hjl : j < Fs.length := by have := (List.getElem?_eq_some_iff.1 e2).1; omega
      have e4 := List.getElem?_eq_getElem hjl
      have hO := g8 j c x _ e1 e2 e4
      have hmem : ∀ i, i ∈ Fs[j] → i ∈ Fs.flatten := fun i hi => List.mem_flatten.2 ⟨_, List.getElem_mem hjl, hi⟩
      refine ok.rel _ _ _ _ (ok.frame _ (σ.delF (D ++ [b])) _ _ _ hO fun i hi => delF_out fun hi' => ?_)
      have hif := hmem i hi
      rcases List.mem_append.1 hi' with e | e
      · exact hD i (List.mem_cons_of_mem _ hif) e
      · rw [List.mem_singleton.1 e] at hif
        exact (List.nodup_cons.1 h2).1 hif
    · cases e3
theorem pIndexAddr_mono {n : Nat} {v i : Value} {K K' : Value → Prop} (h : pIndexAddr n v i K) (hK : ∀ p, K p → K' p) : pIndexAddr n v i K' := by
  obtain ⟨a, len, cap, k, m, h1, h2, h3, h4, h5⟩ := h
  exact ⟨a, len, cap, k, m, h1, h2, h3, h4, hK _ h5⟩
end
end Go.Av
namespace Go.Proofs.YtkbhjejalkbogaaGreatDoor
open Go Go.Av Go.RowKit

section
variable {w0 : World} {σ : Vw}

theorem spec_l1CopyA {n : Nat} {es : List Value} {d : Bool} {md : Int} {t : ByteArray} {ns : List ByteArray} {ks : List Tr} {R : Value → Vw → Prop} (h : RT (n + 1) (Av.get w0 σ) es (.mk d md t ns ks)) (hf : fitT (n + 1) (.mk d md t ns ks))
    (hR : ∀ u w F1 F2 s, Keeps σ s → OAcc w0 t_string 1 OStr s F1 u ns → OAcc w0 t_impl_Tree 5 (OT w0 n) s F2 w ks → (∀ i, i ∈ F1 → σ i = none) → (∀ i, i ∈ F2 → σ i = none) → (∀ i, i ∈ F1 → i ∉ F2) → R (.agg ⟨[.bool d, .int .i64 md, .string t, u, w]⟩) s) : AC Tryz.prog w0 n_spec_l1Copy [.agg ⟨es⟩] σ R := by
  obtain ⟨u, w, rfl, h2, h3, h4, h5⟩ := h
  obtain ⟨f1, f2, f3⟩ := hf
  refine ac_spec_l1Copy ?_
  unfold vc_spec_l1Copy
  rw [pVal_5 rfl rfl rfl h4.one h5.one]
  simp only [cellOf_agg, List.getD_cons_zero, List.getD_cons_succ]
  intro b hb1 hb2
  have kb : Keeps σ (σ.put b ⟨t_string, [], 0, (0, 0)⟩) := Keeps.put hb2
  have hb0 : ∀ i, i ∈ [b] → σ i = none := fun i hi => by rw [List.mem_singleton.1 hi]; exact hb2
  refine (OAcc.new (w0 := w0) (σ := σ) (ety := t_string) (n := 1) (O := OStr) hb1).all (ok_str w0) h4 kb.le (fun es y hy => ⟨rfl, hy⟩) (by simpa using f1) (by omega) fun u' F1 s1 k1 o1 g1 => ?_
  have K1 := k1.old kb hb0
  have hF1 := fresh_in kb hb0 g1
  rw [List.nil_append] at o1
  have hl5 := h5.le
  rw [pVal1 rfl, pVal1 rfl, pVal1 rfl, pVal1 (OSl.one' o1.osl), pVal_5 rfl rfl rfl (OSl.one' o1.osl) rfl]
  refine loop_rule (m := ks.length) (fun m l s => ∃ (j : Nat) (v' : Value) (F2 : List Nat), m + j = ks.length ∧ Keeps σ s ∧ OAcc w0 t_string 1 OStr s F1 u' ns ∧ OAcc w0 t_impl_Tree 5 (OT w0 n) s F2 v' (ks.take j) ∧ (∀ i, i ∈ F2 → σ i = none) ∧ (∀ i, i ∈ F1 → i ∉ F2) ∧
      l = [.int .i64 (j : Nat), .bool d, .int .i64 md, .string t, u, w, .bool false, .int .i64 0, .string ⟨#[]⟩, .slice none 0 0, .slice none 0 0, .bool d, .int .i64 md, .string t, u', v']) ?_
    ⟨0, _, [], by omega, K1, o1, OAcc.nil, by simp, by simp, rfl⟩
  rintro m l s L ⟨j, v', F2, hm, ks', p1, p2, hF2, hd, rfl⟩ hL
  simp only [vget, List.getD_cons_zero, List.getD_cons_succ]
  have h5' := h5.mono ks'.le fun es x => mono_rt n _ _ es x ks'.le
  rw [h5'.len, pBin_lt, pIf_d]
  refine ⟨fun hi => ?_, fun hi => ?_⟩
  · have hx := List.getElem?_eq_getElem (show j < ks.length by omega)
    generalize hxi : ks[j]'(by omega) = y at hx
    refine h5'.at hx fun g hg => ?_
    refine spec_l1Copy n hg (f3 y (List.mem_of_getElem? hx)) fun es3 F3 s3 k3 o3 g3 => ?_
    obtain ⟨a, b', c, d', e, rfl, _, hpv⟩ := RT.five ((ok_rt w0 n).rel _ _ _ _ o3)
    rw [hpv]
    simp only [cellOf_agg, List.getD_cons_zero, List.getD_cons_succ]
    have p2' := p2.frame (ok_rt w0 n) (k3.but_at fun b hb => (p2.dom (ok_rt w0 n) b hb).2)
    have p1' := p1.frame (ok_str w0) (k3.but_at fun b hb => (p1.dom (ok_str w0) b hb).2)
    refine p2'.one (ok_rt w0 n) o3 (fun i hi hi' => (p2.dom (ok_rt w0 n) i hi').2 (g3 i hi)) (by rw [List.length_take]; omega) (by omega) fun v4 F4 s4 k4 o4 g4 => ?_
    rw [pVal1 (OSl.one' o4.osl), pBin_add (by omega)]
    have K3 := ks'.trans k3
    have hF3 : ∀ i, i ∈ F3 → σ i = none := fun i hi => none_at ks' (g3 i hi)
    refine hL _ _ (m - 1) (by omega) ⟨j + 1, v4, F4, by omega, k4.old K3 hF2, p1'.frame (ok_str w0) (k4.at (fun i hi => (p1'.dom (ok_str w0) i hi).2) hd), ?_, fun i hi => ?_, fun i hi hi' => ?_, rfl⟩
    · rw [List.take_add_one, hx]; exact o4
    · rcases g4 i hi with h | h | h
      · exact hF2 i h
      · exact hF3 i h
      · exact none_at K3 h
    · rcases g4 i hi' with h | h | h
      · exact hd i hi h
      · exact (p1.dom (ok_str w0) i hi).2 (g3 i h)
      · exact (p1'.dom (ok_str w0) i hi).2 h
  · have e : j = ks.length := by omega
    subst e
    rw [List.take_length] at p2
    rw [pVal_5 rfl rfl rfl (OSl.one' p1.osl) (OSl.one' p2.osl)]
    exact hR u' v' F1 F2 s ks' p1 p2 hF1 hF2 hd

/-- A tree in rows of our own, beside a reader. -/
def SP (w0 : World) (σ : Vw) (b q N : Nat) (s : Vw) (u w : Value) (ns : List ByteArray) (ks : List Tr) : Prop := ∃ F1 F2, RD w0 s b q ∧ Keeps (σ.del b) (s.del b) ∧ (∀ i, i ∈ F1 → (σ.del b) i = none ∧ i ≠ b) ∧ (∀ i, i ∈ F2 → (σ.del b) i = none ∧ i ≠ b) ∧ (∀ i, i ∈ F1 → i ∉ F2) ∧
  OAcc w0 t_string 1 OStr s F1 u ns ∧ OAcc w0 t_impl_Tree 5 (OB (RT N) (Av.get w0 (s.delF (b :: (F1 ++ F2))))) s F2 w ks
theorem SP.next {b q q' N : Nat} {s s' : Vw} {u w : Value} {ns : List ByteArray} {ks : List Tr} (h : SP w0 σ b q N s u w ns ks) (hrd : RD w0 s' b q') (k : Keeps (s.del b) (s'.del b)) : SP w0 σ b q' N s' u w ns ks := by
  obtain ⟨F1, F2, h1, h2, h3, h4, h5, h6, h7⟩ := h
  have okB := ok_base (rok_rt N) w0 (Av.get w0 (s.delF (b :: (F1 ++ F2))))
  have kp : ∀ i, i ≠ b → s i ≠ none → s' i = s i := fun i hi hn => by
    cases hs : s i with
    | none => exact absurd hs hn
    | some r => exact keeps_out k hi hs
  refine ⟨F1, F2, hrd, h2.trans k, h3, h4, h5, h6.frame (ok_str w0) fun i hi => kp i (h3 i hi).2 (h6.dom (ok_str w0) i hi).2, ?_⟩
  refine OAcc.rebase (rok_rt N) (OAcc.frame okB h7 fun i hi => kp i (h4 i hi).2 (h7.dom okB i hi).2) (Keeps.le fun i r hi => ?_)
  obtain ⟨e1, e2⟩ := delF_some hi
  rw [delF_out e1]
  exact keeps_out k (fun e => e1 (by rw [e]; exact List.mem_cons_self)) e2
theorem SP.rd {b q N : Nat} {s : Vw} {u w : Value} {ns : List ByteArray} {ks : List Tr} (h : SP w0 σ b q N s u w ns ks) : RD w0 s b q := by obtain ⟨F1, F2, h1, _⟩ := h; exact h1
theorem SP.keeps {b q N : Nat} {s : Vw} {u w : Value} {ns : List ByteArray} {ks : List Tr} (h : SP w0 σ b q N s u w ns ks) : Keeps (σ.del b) (s.del b) := by obtain ⟨F1, F2, h1, h2, _⟩ := h; exact h2
/-- It is a tree. -/
theorem SP.tree {b q N : Nat} {s : Vw} {u w : Value} {ns : List ByteArray} {ks : List Tr} (h : SP w0 σ b q N s u w ns ks) {d : Bool} {m : Int} {t : ByteArray} (hm : -9223372036854775808 ≤ m ∧ m ≤ 9223372036854775807) (ht : t.size ≤ 9223372036854775807) :
    RT (N + 1) (Av.get w0 (s.del b)) [.bool d, .int .i64 m, .string t, u, w] (.mk d m t ns ks) := by
  obtain ⟨F1, F2, h1, h2, h3, h4, h5, h6, h7⟩ := h
  have okB := ok_base (rok_rt N) w0 (Av.get w0 (s.delF (b :: (F1 ++ F2))))
  refine ⟨u, w, rfl, hm, ht, (h6.frame (σ' := s.del b) (ok_str w0) fun i hi => del_ne (h3 i hi).2).osl.rel (ok_str w0), ?_⟩
  refine RSl.unbase (rok_rt N) ((OAcc.osl (OAcc.frame (σ' := s.del b) okB h7 fun i hi => del_ne (h4 i hi).2)).rel okB) (Keeps.le fun i r hi => ?_)
  obtain ⟨e1, e2⟩ := delF_some hi
  rw [del_ne fun e => e1 (by rw [e]; exact List.mem_cons_self)]; exact e2
theorem SP.ones {b q N : Nat} {s : Vw} {u w : Value} {ns : List ByteArray} {ks : List Tr} (h : SP w0 σ b q N s u w ns ks) : u.oneCell' = true ∧ w.oneCell' = true := by
  obtain ⟨F1, F2, h1, h2, h3, h4, h5, h6, h7⟩ := h
  exact ⟨OSl.one' h6.osl, OSl.one' h7.osl⟩
/-- A name and an empty part are added. -/
theorem SP.name {b q N : Nat} {s : Vw} {u w : Value} {ns : List ByteArray} {ks : List Tr} (h : SP w0 σ b q N s u w ns ks) {nm : ByteArray} (hn : nm.size ≤ 1000000) (hl : ns.length ≤ 100000000000) {K : Value → Vw → Prop}
    (hK : ∀ u' s', SP w0 σ b q N s' u' w (ns ++ [nm]) ks → K u' s') : allOne [.string nm] ∧ pAppend w0 t_string 1 16 u 1 [.string nm] s K := by
  obtain ⟨F1, F2, h1, h2, h3, h4, h5, h6, h7⟩ := h
  have okB := ok_base (rok_rt N) w0 (Av.get w0 (s.delF (b :: (F1 ++ F2))))
  refine h6.one (ok_str w0) (f := []) (y := nm) ⟨rfl, rfl, by omega⟩ (fun i hi => by cases hi) (by omega) (by omega) fun u' F1' s' k o f => ?_
  have hbF : b ∉ F1 := fun hb => (h3 b hb).2 rfl
  have hsb : s' b = s b := by
    cases hb : s b with
    | none => exact absurd hb h1.at
    | some r => exact k b r hb hbF
  have hsk : Keeps (σ.del b) (s'.del b) := fun i r hi => by
    obtain ⟨e1, e2⟩ := del_some hi
    have e3 := h2 i r hi
    rw [del_ne e1] at e3 ⊢
    exact k i r e3 fun hf => by rw [(h3 i hf).1] at hi; cases hi
  have hF1' : ∀ i, i ∈ F1' → (σ.del b) i = none ∧ i ≠ b := fun i hi => by
    rcases f i hi with e | e | e
    · exact h3 i e
    · cases e
    · have hib : i ≠ b := fun e' => h1.at (e' ▸ e)
      refine ⟨?_, hib⟩
      rw [del_ne hib]; exact none_out h2 hib e
  refine hK u' s' ⟨F1', F2, h1.keep hsb, hsk, hF1', h4, fun i hi hi' => ?_, o, ?_⟩
  · rcases f i hi with e | e | e
    · exact h5 i e hi'
    · cases e
    · exact (h7.dom okB i hi').2 e
  · refine OAcc.rebase (rok_rt N) (OAcc.frame okB h7 fun i hi => ?_) (Keeps.le fun i r hi => ?_)
    · cases hs : s i with
      | none => exact absurd hs (h7.dom okB i hi).2
      | some r => exact k i r hs fun hf => h5 i hf hi
    · obtain ⟨e1, e2⟩ := delF_some hi
      have e3 : i ∉ F1 := fun h => e1 (by simp [h])
      have e4 : i ∉ F2 := fun h => e1 (by simp [h])
      have e5 : i ≠ b := fun h => e1 (by simp [h])
      rw [delF_out]
      · exact k i r e2 e3
      · intro h
        simp only [List.mem_cons, List.mem_append] at h
        rcases h with h | h | h
        · exact e5 h
        · rcases f i h with e | e | e
          · exact e3 e
          · cases e
          · rw [e2] at e; cases e
        · exact e4 h
theorem SP.kid {b q N : Nat} {s : Vw} {u w : Value} {ns : List ByteArray} {ks : List Tr} (h : SP w0 σ b q (N + 1) s u w ns ks) (hl : ks.length ≤ 100000000000) {K : Value → Vw → Prop}
    (hK : ∀ w' s', SP w0 σ b q (N + 1) s' u w' ns (ks ++ [zeroT]) → K w' s') : allOne [.bool false, .int .i64 0, .string ⟨#[]⟩, .slice none 0 0, .slice none 0 0] ∧ pAppend w0 t_impl_Tree 5 80 w 1 [.bool false, .int .i64 0, .string ⟨#[]⟩, .slice none 0 0, .slice none 0 0] s K := by
  obtain ⟨F1, F2, h1, h2, h3, h4, h5, h6, h7⟩ := h
  have okB := ok_base (rok_rt (N + 1)) w0 (Av.get w0 (s.delF (b :: (F1 ++ F2))))
  refine h7.one okB (f := []) (y := zeroT) ⟨rfl, RT_zero N _⟩ (fun i hi => by cases hi) (by omega) (by omega) fun w' F2' s' k o f => ?_
  have hbF : b ∉ F2 := fun hb => (h4 b hb).2 rfl
  have hsb : s' b = s b := by
    cases hb : s b with
    | none => exact absurd hb h1.at
    | some r => exact k b r hb hbF
  have hsk : Keeps (σ.del b) (s'.del b) := fun i r hi => by
    obtain ⟨e1, e2⟩ := del_some hi
    have e3 := h2 i r hi
    rw [del_ne e1] at e3 ⊢
    exact k i r e3 fun hf => by rw [(h4 i hf).1] at hi; cases hi
  have hF2' : ∀ i, i ∈ F2' → (σ.del b) i = none ∧ i ≠ b := fun i hi => by
    rcases f i hi with e | e | e
    · exact h4 i e
    · cases e
    · have hib : i ≠ b := fun e' => h1.at (e' ▸ e)
      refine ⟨?_, hib⟩
      rw [del_ne hib]; exact none_out h2 hib e
  refine hK w' s' ⟨F1, F2', h1.keep hsb, hsk, h3, hF2', fun i hi hi' => ?_, h6.frame (ok_str w0) fun i hi => ?_, OAcc.rebase (rok_rt (N + 1)) o (Keeps.le fun i r hi => ?_)⟩
  · rcases f i hi' with e | e | e
    · exact h5 i hi e
    · cases e
    · exact (h6.dom (ok_str w0) i hi).2 e
  · cases hs : s i with
    | none => exact absurd hs (h6.dom (ok_str w0) i hi).2
    | some r => exact k i r hs (h5 i hi)
  · obtain ⟨e1, e2⟩ := delF_some hi
    have e3 : i ∉ F1 := fun h => e1 (by simp [h])
    have e4 : i ∉ F2 := fun h => e1 (by simp [h])
    have e5 : i ≠ b := fun h => e1 (by simp [h])
    rw [delF_out]
    · exact k i r e2 e4
    · intro h
      simp only [List.mem_cons, List.mem_append] at h
      rcases h with h | h | h
      · exact e5 h
      · exact e3 h
      · rcases f i h with e | e | e
        · exact e4 e
        · cases e
        · rw [e2] at e; cases e

/-- A copy. -/
theorem copy_sp {b q n : Nat} {es : List Value} {d : Bool} {md : Int} {t : ByteArray} {ns : List ByteArray} {ks : List Tr} {N : Nat} (hrd : RD w0 σ b q) (h : RT (n + 1) (Av.get w0 (σ.del b)) es (.mk d md t ns ks)) (hf : fitT (n + 1) (.mk d md t ns ks)) (hN : n ≤ N) {R : Value → Vw → Prop}
    (hR : ∀ u w s, SP w0 σ b q N s u w ns ks → R (.agg ⟨[.bool d, .int .i64 md, .string t, u, w]⟩) s) : AC Tryz.prog w0 n_spec_l1Copy [.agg ⟨es⟩] σ R := by
  refine hrd.hide (R := fun v s => Keeps (σ.del b) s ∧ ∃ u w F1 F2, v = .agg ⟨[.bool d, .int .i64 md, .string t, u, w]⟩ ∧ OAcc w0 t_string 1 OStr s F1 u ns ∧ OAcc w0 t_impl_Tree 5 (OT w0 n) s F2 w ks ∧ (∀ i, i ∈ F1 → (σ.del b) i = none) ∧ (∀ i, i ∈ F2 → (σ.del b) i = none) ∧ (∀ i, i ∈ F1 → i ∉ F2))
    (spec_l1CopyA h hf fun u w F1 F2 s k o1 o2 f1 f2 hd => ⟨k, u, w, F1, F2, rfl, o1, o2, f1, f2, hd⟩) (fun v s k hrd' hh => ?_) fun v s h => h.1
  obtain ⟨_, u, w, F1, F2, rfl, o1, o2, f1, f2, hd⟩ := hh
  have hb1 : ∀ i, i ∈ F1 → i ≠ b := fun i hi e => (o1.dom (ok_str w0) i hi).2 (by rw [e]; exact del_at)
  have hb2 : ∀ i, i ∈ F2 → i ≠ b := fun i hi e => (o2.dom (ok_rt w0 n) i hi).2 (by rw [e]; exact del_at)
  have o1' := o1.frame (σ' := s) (ok_str w0) fun i hi => (del_ne (hb1 i hi)).symm
  have o2' := o2.frame (σ' := s) (ok_rt w0 n) fun i hi => (del_ne (hb2 i hi)).symm
  obtain ⟨F3, h3, o3⟩ := OAcc.to_base (ok_rt w0 n) (D := b :: F1) o2' fun i hi hi' => by
    rcases List.mem_cons.1 hi' with e | e
    · exact hb2 i hi e
    · exact hd i e hi
  have o4 : OAcc w0 t_impl_Tree 5 (OB (RT N) (Av.get w0 (s.delF (b :: (F1 ++ F3))))) s F3 w ks := by
    obtain ⟨g1, g2, g3 | ⟨b0, cap, css, Fs, q1, q2, q3, q4, q5, q6, q7, q8⟩⟩ := o3
    · exact ⟨g1, g2, .inl g3⟩
    · exact ⟨g1, g2, .inr ⟨b0, cap, css, Fs, q1, q2, q3, q4, q5, q6, q7, fun j c x f e1 e2 e3 => by
        have := q8 j c x f e1 e2 e3
        exact ⟨this.1, RT_le hN this.2⟩⟩⟩
  exact hR u w s ⟨F1, F3, hrd', k, fun i hi => ⟨f1 i hi, hb1 i hi⟩, fun i hi => ⟨f2 i (h3 i hi), hb2 i (h3 i hi)⟩, fun i hi hi' => hd i hi (h3 i hi'), o1', o4⟩
end
end Go.Proofs.YtkbhjejalkbogaaGreatDoor

/- A tree that is drawn and spoilt; any tree that is drawn; what the laws on trees draw. -/
set_option linter.unusedVariables false
set_option linter.unusedSimpArgs false
set_option maxRecDepth 20000
namespace Go.Av
open Go Go.RowKit
/-- What a call leaves, with the rows that were kept from it. -/
def Vw.mergeF (σ : Vw) (F : List Nat) (σ' : Vw) : Vw := fun i => if i ∈ F then σ i else σ' i
theorem mergeF_in {σ σ' : Vw} {F : List Nat} {i : Nat} (h : i ∈ F) : σ.mergeF F σ' i = σ i := by simp [Vw.mergeF, h]
theorem mergeF_out {σ σ' : Vw} {F : List Nat} {i : Nat} (h : i ∉ F) : σ.mergeF F σ' i = σ' i := by simp [Vw.mergeF, h]
theorem delF_mergeF {σ σ' : Vw} {F : List Nat} (h : ∀ i, i ∈ F → σ' i = none) : (σ.mergeF F σ').delF F = σ' := by
  funext i
  by_cases hi : i ∈ F
  · rw [delF_in hi, h i hi]
  · rw [delF_out hi, mergeF_out hi]
theorem AC.hideF {P : Program} {w0 : World} {f : FuncId} {args : List Value} {σ : Vw} {R R' : Value → Vw → Prop} {F : List Nat} (h : AC P w0 f args (σ.delF F) R) (hR : ∀ v σ', (∀ i, i ∈ F → σ i ≠ none → σ' i = none) → R v σ' → R' v (σ.mergeF F σ')) : AC P w0 f args σ R' := by
  refine ⟨h.1, fun w hw => ?_⟩
  have hs : Sat w0 (σ.delF F) w := ⟨hw.bel, fun i r' hi => hw.row i r' (delF_keeps i r' hi)⟩
  refine (h.2 w hs).mono ?_
  rintro e w' ⟨v, σ', he, hRv, ha⟩
  have hn : ∀ i, i ∈ F → σ i ≠ none → σ' i = none := fun i hi hne => by
    cases hc : σ' i with
    | none => rfl
    | some r' =>
      rcases ha.dom i r' hc with h1 | h1
      · exact absurd (delF_in hi) h1
      · cases hs' : σ i with
        | none => exact absurd hs' hne
        | some r => have := hw.lt hs'; omega
  refine ⟨v, σ.mergeF F σ', he, hR v σ' hn hRv, ⟨⟨ha.sat.bel, fun i r' hi => ?_⟩, ha.size, fun i hi hni => ?_, fun i r' hi => ?_⟩⟩
  · by_cases e : i ∈ F
    · rw [mergeF_in e] at hi
      obtain ⟨h1, cur, h2, h3⟩ := hw.row i _ hi
      exact ⟨h1, cur, (ha.fr i (hw.lt hi) (delF_in e)).trans h2, h3⟩
    · rw [mergeF_out e] at hi
      exact ha.sat.row i r' hi
  · refine ha.fr i hi ?_
    by_cases e : i ∈ F
    · exact delF_in e
    · rw [delF_out e]; exact hni
  · by_cases e : i ∈ F
    · rw [mergeF_in e] at hi; exact .inl (by rw [hi]; simp)
    · rw [mergeF_out e] at hi
      rcases ha.dom i r' hi with h1 | h1
      · exact .inl (by rw [delF_out e] at h1; exact h1)
      · exact .inr h1
theorem del_delF {σ : Vw} {F : List Nat} {b : Nat} : (σ.delF F).del b = σ.delF (b :: F) := by
  funext i
  by_cases e : i = b
  · subst e; rw [del_at, delF_in List.mem_cons_self]
  · rw [del_ne e]
    by_cases hi : i ∈ F
    · rw [delF_in hi, delF_in (List.mem_cons_of_mem _ hi)]
    · rw [delF_out hi, delF_out (by simp [e, hi])]
end Go.Av
namespace Go.Proofs.YtkbhjejalkbogaaGreatDoor
open Go Go.Av Go.RowKit

theorem sumBy_set {α : Type} {f : α → Nat} : ∀ {l : List α} {j : Nat} {x y : α}, l[j]? = some x → sumBy f (l.set j y) + f x = sumBy f l + f y
  | a :: r, 0, x, y, h => by
    simp at h; subst h
    simp only [List.set_cons_zero, sumBy]; omega
  | a :: r, j + 1, x, y, h => by
    have := sumBy_set (f := f) (l := r) (y := y) (show r[j]? = some x by simpa using h)
    simp only [List.set_cons_succ, sumBy]; omega
  | [], j, x, y, h => by simp at h
theorem kdW_more {n m : Nat} {ks : List Tr} (h : ∀ k, k ∈ ks → IsT n k) (hm : n ≤ m) : kdW m ks = kdW n ks := by
  unfold kdW
  rw [sumBy_congr fun k hk => sz_more (h k hk) hm]

theorem RT_down : ∀ (n m : Nat) (rd : Addr → Option Value) (es : List Value) (x : Tr), RT m rd es x → IsT n x → RT n rd es x
  | 0, _, _, _, _, _, ⟨_, _, h⟩ => h.elim
  | n + 1, 0, _, _, _, h, _ => h.elim
  | n + 1, m + 1, rd, es, .mk d mo t ns ks, h, hs => by
    obtain ⟨u, w, h1, h2, h3, h4, A, cap, e1, e2, e3⟩ := h
    refine ⟨u, w, h1, h2, h3, h4, A, cap, e1, e2, fun j y hj => ?_⟩
    obtain ⟨a, es', q1, q2, q3, q4⟩ := e3 j y hj
    exact ⟨a, es', q1, q2, q3, RT_down n m rd es' y q4 (isT_kid hs (List.mem_of_getElem? hj))⟩

section
variable {w0 : World} {σ : Vw}

def VSW (w0 : World) (pb x0 x1 x2 x3 x4 : Value) (s : Vw) (R : Value → Vw → Prop) : Prop :=
  AC Tryz.prog w0 n_p_spec_l1Rd_pick [pb, .int .i64 8] s (fun v16 s17 => pBin Tryz.prog 3 .eql v16 (.int .i64 0) (fun v18 => pIf v18 (pVal false 1 (.int .i64 (-1)) (pVal false 1 (.int .i64 7) (pVal false 1 (.int .i64 8) (pNew w0 t_int [.int .i64 (-1), .int .i64 7, .int .i64 8] s17 (fun n19 s20 => AC Tryz.prog w0 n_p_spec_l1Rd_pick [pb, .int .i64 3] s20 (fun v21 s22 => pIndexAddr 1 (.slice (some (Addr.mk n19 0 none)) 3 3) v21 (fun v23 => pLoad w0 1 v23 s22 (fun g24 => pVal false 1 (g24 0) (pVal true 5 (.agg (⟨[x0, g24 0, x2, x3, x4]⟩)) (R (.agg (⟨[x0, g24 0, x2, x3, x4]⟩)) s22)))))))))) (pBin Tryz.prog 3 .eql v16 (.int .i64 1) (fun v25 => pIf v25 (pUn UnOp.not (x0) (fun v26 => pVal false 1 v26 (pVal true 5 (.agg (⟨[v26, x1, x2, x3, x4]⟩)) (R (.agg (⟨[v26, x1, x2, x3, x4]⟩)) s17)))) (pBin Tryz.prog 3 .eql v16 (.int .i64 2) (fun v27 => pIf v27 (pBin Tryz.prog t_string .add (x2) (.string ({ data := #[120] })) (fun v28 => pVal false 1 v28 (pVal true 5 (.agg (⟨[x0, x1, v28, x3, x4]⟩)) (R (.agg (⟨[x0, x1, v28, x3, x4]⟩)) s17)))) (pBin Tryz.prog 3 .eql v16 (.int .i64 3) (fun v29 => pIf v29 (pVal false 1 (.string ({ data := #[122, 122] })) (pVal false 1 (.string ({ data := #[] })) (pVal false 1 (.string ({ data := #[97] })) (pVal false 1 (.string ({ data := #[90] })) (pVal false 1 (.string ({ data := #[116, 111, 111, 108, 111, 110, 103] })) (pNew w0 t_string ([.string ({ data := #[122, 122] }), .string ({ data := #[] }), .string ({ data := #[97] }), .string ({ data := #[90] }), .string ({ data := #[116, 111, 111, 108, 111, 110, 103] })]) s17 (fun n30 s31 => AC Tryz.prog w0 n_p_spec_l1Rd_of [pb, .slice (some (Addr.mk n30 0 none)) 5 5] s31 (fun v32 s33 => pVal false 1 v32 ((allOne [v32]) ∧ (pAppend w0 t_string 1 16 (x3) 1 [v32] s33 (fun v34 s35 => pVal false 1 v34 (pVal true 5 (.agg (⟨[.bool false, .int .i64 0, .string ({ data := #[] }), .slice none 0 0, .slice none 0 0]⟩)) ((allOne ([.bool false, .int .i64 0, .string ({ data := #[] }), .slice none 0 0, .slice none 0 0])) ∧ (pAppend w0 t_impl_Tree 5 80 (x4) 1 ([.bool false, .int .i64 0, .string ({ data := #[] }), .slice none 0 0, .slice none 0 0]) s35 (fun v36 s37 => pVal false 1 v36 (pVal true 5 (.agg (⟨[x0, x1, x2, v34, v36]⟩)) (R (.agg (⟨[x0, x1, x2, v34, v36]⟩)) s37))))))))))))))))) (pBin Tryz.prog 3 .eql v16 (.int .i64 4) (fun v38 => pIf v38 (pVal false 1 (.string ({ data := #[122, 122, 122] })) ((allOne ([.string ({ data := #[122, 122, 122] })])) ∧ (pAppend w0 t_string 1 16 (x3) 1 ([.string ({ data := #[122, 122, 122] })]) s17 (fun v39 s40 => pVal false 1 v39 (pVal true 5 (.agg (⟨[x0, x1, x2, v39, x4]⟩)) (R (.agg (⟨[x0, x1, x2, v39, x4]⟩)) s40)))))) (pBin Tryz.prog 3 .eql v16 (.int .i64 5) (fun v41 => pIf v41 (AC Tryz.prog w0 n_p_spec_l1Rd_pick [pb, .int .i64 2] s17 (fun v42 s43 => pBin Tryz.prog 3 .add (.int .i64 24) v42 (fun v44 => AC Tryz.prog w0 n_spec_l1Many ([.string ({ data := #[100] }), v44]) s43 (fun v45 s46 => pVal false 1 v45 (pVal true 5 (.agg (⟨[x0, x1, v45, x3, x4]⟩)) (R (.agg (⟨[x0, x1, v45, x3, x4]⟩)) s46)))))) (pBin Tryz.prog 3 .eql v16 (.int .i64 6) (fun v47 => pIf v47 (pLoop (fun l48 K49 s50 => AC Tryz.prog w0 n_p_spec_l1Rd_pick [vget l48 0, .int .i64 2] s50 (fun v51 s52 => pBin Tryz.prog 3 .add (.int .i64 4) v51 (fun v53 => pBin Tryz.prog 3 .lss (vget l48 1) v53 (fun v54 => pIf v54 (pVal false 1 (.string ({ data := #[110] })) (pNew w0 t_string ([.string ({ data := #[110] })]) s52 (fun n55 s56 => pVal true 5 (.agg (⟨[vget l48 7, vget l48 8, vget l48 9, vget l48 10, vget l48 11]⟩)) (pNew w0 t_impl_Tree [vget l48 7, vget l48 8, vget l48 9, vget l48 10, vget l48 11] s56 (fun n57 s58 => pVal false 1 (.bool true) (pVal false 1 (.slice (some (Addr.mk n55 0 none)) 1 1) (pVal false 1 (.slice (some (Addr.mk n57 0 none)) 1 1) (pVal true 5 (.agg (⟨[.bool true, .int .i64 0, .string ({ data := #[] }), .slice (some (Addr.mk n55 0 none)) 1 1, .slice (some (Addr.mk n57 0 none)) 1 1]⟩)) (pBin Tryz.prog 3 .add (vget l48 1) (.int .i64 1) (fun v59 => K49 AX.normal ([vget l48 0, v59, vget l48 2, vget l48 3, vget l48 4, vget l48 5, vget l48 6, .bool true, .int .i64 0, .string ({ data := #[] }), .slice (some (Addr.mk n55 0 none)) 1 1, .slice (some (Addr.mk n57 0 none)) 1 1]) s58)))))))))) (K49 (AX.exit 3) [vget l48 0, vget l48 1, vget l48 2, vget l48 3, vget l48 4, vget l48 5, vget l48 6, vget l48 7, vget l48 8, vget l48 9, vget l48 10, vget l48 11] s52))))) ([pb, .int .i64 0, .bool false, .int .i64 0, .string ({ data := #[] }), .slice none 0 0, .slice none 0 0, x0, x1, x2, x3, x4]) s17 (fun x60 l61 s62 => match x60 with | .normal => pVal true 5 (.agg (⟨[vget l61 7, vget l61 8, vget l61 9, vget l61 10, vget l61 11]⟩)) (R (.agg (⟨[vget l61 7, vget l61 8, vget l61 9, vget l61 10, vget l61 11]⟩)) s62) | .ret => R (.agg (⟨[vget l61 2, vget l61 3, vget l61 4, vget l61 5, vget l61 6]⟩)) s62 | .exit i63 => (match Nat.beq i63 3 with | true => pVal true 5 (.agg (⟨[vget l61 7, vget l61 8, vget l61 9, vget l61 10, vget l61 11]⟩)) (R (.agg (⟨[vget l61 7, vget l61 8, vget l61 9, vget l61 10, vget l61 11]⟩)) s62) | false => (match Nat.beq i63 0 with | true => pVal true 5 (.agg (⟨[vget l61 7, vget l61 8, vget l61 9, vget l61 10, vget l61 11]⟩)) (R (.agg (⟨[vget l61 7, vget l61 8, vget l61 9, vget l61 10, vget l61 11]⟩)) s62) | false => False)))) (pLoop (fun l64 K65 s66 => pBin Tryz.prog 3 .lss (vget l64 0) (.int .i64 30) (fun v67 => pIf v67 (pBin Tryz.prog 3 .add (.int .i64 100) (vget l64 0) (fun v68 => AC Tryz.prog w0 n_spec_l1Dec [v68] s66 (fun v69 s70 => pBin Tryz.prog t_string .add (.string ({ data := #[122, 122] })) v69 (fun v71 => pVal false 1 v71 ((allOne [v71]) ∧ (pAppend w0 t_string 1 16 (vget l64 9) 1 [v71] s70 (fun v72 s73 => pVal false 1 v72 (pVal true 5 (.agg (⟨[.bool false, .int .i64 0, .string ({ data := #[] }), .slice none 0 0, .slice none 0 0]⟩)) ((allOne ([.bool false, .int .i64 0, .string ({ data := #[] }), .slice none 0 0, .slice none 0 0])) ∧ (pAppend w0 t_impl_Tree 5 80 (vget l64 10) 1 ([.bool false, .int .i64 0, .string ({ data := #[] }), .slice none 0 0, .slice none 0 0]) s73 (fun v74 s75 => pVal false 1 v74 (pBin Tryz.prog 3 .add (vget l64 0) (.int .i64 1) (fun v76 => K65 AX.normal [v76, vget l64 1, vget l64 2, vget l64 3, vget l64 4, vget l64 5, vget l64 6, vget l64 7, vget l64 8, v72, v74] s75))))))))))))) (K65 (AX.exit 1) [vget l64 0, vget l64 1, vget l64 2, vget l64 3, vget l64 4, vget l64 5, vget l64 6, vget l64 7, vget l64 8, vget l64 9, vget l64 10] s66))) ([.int .i64 0, .bool false, .int .i64 0, .string ({ data := #[] }), .slice none 0 0, .slice none 0 0, x0, x1, x2, x3, x4]) s17 (fun x77 l78 s79 => match x77 with | .normal => pVal true 5 (.agg (⟨[vget l78 6, vget l78 7, vget l78 8, vget l78 9, vget l78 10]⟩)) (R (.agg (⟨[vget l78 6, vget l78 7, vget l78 8, vget l78 9, vget l78 10]⟩)) s79) | .ret => R (.agg (⟨[vget l78 1, vget l78 2, vget l78 3, vget l78 4, vget l78 5]⟩)) s79 | .exit i80 => (match Nat.beq i80 1 with | true => pVal true 5 (.agg (⟨[vget l78 6, vget l78 7, vget l78 8, vget l78 9, vget l78 10]⟩)) (R (.agg (⟨[vget l78 6, vget l78 7, vget l78 8, vget l78 9, vget l78 10]⟩)) s79) | false => (match Nat.beq i80 0 with | true => pVal true 5 (.agg (⟨[vget l78 6, vget l78 7, vget l78 8, vget l78 9, vget l78 10]⟩)) (R (.agg (⟨[vget l78 6, vget l78 7, vget l78 8, vget l78 9, vget l78 10]⟩)) s79) | false => False))))))))))))))))))

set_option maxHeartbeats 8000000 in
/-- A tree of our own is spoilt in one place. -/
theorem spoil_here {b q n : Nat} {s : Vw} {d : Bool} {m : Int} {t : ByteArray} {u w : Value} {ns : List ByteArray} {ks : List Tr} (h : SP w0 σ b q (n + 5) s u w ns ks) (hq : q ≤ 1000000) (hm : i64r m) (ht : t.size ≤ 100000000) (hk : ∀ k, k ∈ ks → IsT n k) (hx : IsT (n + 1) (.mk d m t ns ks)) (hsz : nmW ns + kdW n ks ≤ 100000000) {R : Value → Vw → Prop}
    (hR : OutTR w0 σ b (q + 15) (n + 6) (t.size + nmW ns + kdW n ks + 400) R) : VSW w0 (ptr b) (.bool d) (.int .i64 m) (.string t) u w s R := by
  unfold VSW
  have hkd : kdW (n + 5) ks = kdW n ks := kdW_more hk (by omega)
  have hl1 : ns.length ≤ 100000000 := by unfold nmW at hsz; omega
  have hl2 : ks.length ≤ 100000000 := by unfold kdW at hsz; omega
  -- what is handed back
  have fin : ∀ {s' : Vw} {q' : Nat} {d' : Bool} {m' : Int} {t' : ByteArray} {u' w' : Value} {ns' : List ByteArray} {ks' : List Tr}, SP w0 σ b q' (n + 5) s' u' w' ns' ks' → q' ≤ q + 15 → i64r m' → t'.size ≤ 200000000 → t'.size + nmW ns' + kdW (n + 5) ks' ≤ t.size + nmW ns + kdW n ks + 400 →
      pVal true 5 (.agg ⟨[.bool d', .int .i64 m', .string t', u', w']⟩) (R (.agg ⟨[.bool d', .int .i64 m', .string t', u', w']⟩) s') := fun {s' q' d' m' t' u' w' ns' ks'} h' hq' hm' ht' hsz' => by
    obtain ⟨o1, o2⟩ := h'.ones
    rw [pVal_5 rfl rfl rfl o1 o2]
    refine hR _ _ s' (h'.rd.more hq') h'.keeps (h'.tree (d := d') (m := m') (t := t') hm' (by omega)) ?_
    show t'.size + (ns'.length + sumS ns') + (ks'.length + sumBy (szT (n + 5)) ks') ≤ _
    unfold nmW kdW at hsz' ⊢
    omega
  obtain ⟨o1, o2⟩ := h.ones
  refine spec_pick (n := 8) h.rd (by omega) (by omega) fun j s1 hj hrd1 hd1 _ => ?_
  have k1 : Keeps (s.del b) (s1.del b) := by rw [hd1]; exact Keeps.refl _
  have h1 := h.next hrd1 k1
  rw [pBin_eq, pIf_d]
  refine ⟨fun _ => ?_, fun _ => ?_⟩
  · rw [pVal1 rfl, pVal1 rfl, pVal1 rfl]
    refine int_lit (xs := [-1, 7, 8]) hrd1 (by omega) (by simp) rfl rfl (K := fun x s => pVal false 1 x (pVal true 5 (.agg (⟨[.bool d, x, .string t, u, w]⟩)) (R (.agg (⟨[.bool d, x, .string t, u, w]⟩)) s))) fun x s2 hx hrd2 k2 => ?_
    rw [pVal1 rfl]
    have hx : i64r x := by simp at hx; rcases hx with rfl | rfl | rfl <;> omega
    exact fin (h1.next hrd2 k2) (by omega) hx (by omega) (by rw [hkd]; omega)
  rw [pBin_eq, pIf_d]
  refine ⟨fun _ => ?_, fun _ => ?_⟩
  · rw [pUn_not, pVal1 rfl]
    exact fin h1 (by omega) hm (by omega) (by rw [hkd]; omega)
  rw [pBin_eq, pIf_d]
  refine ⟨fun _ => ?_, fun _ => ?_⟩
  · have e1 : (⟨#[120]⟩ : ByteArray).size = 1 := rfl
    rw [pBin_cat (by rw [e1]; omega), pVal1 rfl]
    exact fin h1 (by omega) hm (by rw [ByteArray.size_append, e1]; omega) (by rw [hkd, ByteArray.size_append, e1]; omega)
  rw [pBin_eq, pIf_d]
  refine ⟨fun _ => ?_, fun _ => ?_⟩
  · rw [pVal1 rfl, pVal1 rfl, pVal1 rfl, pVal1 rfl, pVal1 rfl]
    have hsz7 : ∀ x, x ∈ [(⟨#[122, 122]⟩ : ByteArray), ⟨#[]⟩, ⟨#[97]⟩, ⟨#[90]⟩, ⟨#[116, 111, 111, 108, 111, 110, 103]⟩] → x.size ≤ 7 := by
      intro x hx
      simp at hx
      rcases hx with rfl | rfl | rfl | rfl | rfl <;> decide
    refine of_lit (xs := [(⟨#[122, 122]⟩ : ByteArray), ⟨#[]⟩, ⟨#[97]⟩, ⟨#[90]⟩, ⟨#[116, 111, 111, 108, 111, 110, 103]⟩]) hrd1 (by omega) (by simp) (fun x hx => by have := hsz7 x hx; omega) rfl rfl fun x s2 hx hrd2 k2 => ?_
    have hxs := hsz7 x hx
    rw [pVal1 rfl]
    refine (h1.next hrd2 k2).name (by omega) (by omega) fun u2 s3 h3 => ?_
    rw [pVal1 h3.ones.1, pVal_5 rfl rfl rfl rfl rfl]
    refine h3.kid (N := n + 4) (by omega) fun w2 s4 h4 => ?_
    rw [pVal1 h4.ones.2]
    exact fin h4 (by omega) hm (by omega) (by rw [nmW_snoc, kdW_snoc, hkd, sz_zero]; omega)
  rw [pBin_eq, pIf_d]
  refine ⟨fun _ => ?_, fun _ => ?_⟩
  · rw [pVal1 rfl]
    have e1 : (⟨#[122, 122, 122]⟩ : ByteArray).size = 3 := rfl
    refine h1.name (by rw [e1]; omega) (by omega) fun u2 s3 h3 => ?_
    rw [pVal1 h3.ones.1]
    exact fin h3 (by omega) hm (by omega) (by rw [nmW_snoc, hkd, e1]; omega)
  rw [pBin_eq, pIf_d]
  refine ⟨fun _ => ?_, fun _ => ?_⟩
  · refine spec_pick (n := 2) hrd1 (by omega) (by omega) fun j2 s2 hj2 hrd2 hd2 _ => ?_
    have k2 : Keeps (s1.del b) (s2.del b) := by rw [hd2]; exact Keeps.refl _
    rw [pBin_add (by omega), show (24 : Int) + (j2 : Nat) = ((24 + j2 : Nat) : Int) by omega]
    have e1 : (⟨#[100]⟩ : ByteArray).size = 1 := rfl
    refine spec_l1Many (s0 := ⟨#[100]⟩) (n := 24 + j2) (by rw [e1]; omega) (by rw [e1]; omega) (by omega) fun t2 ht2 => ?_
    rw [e1] at ht2
    rw [pVal1 rfl]
    exact fin (h1.next hrd2 k2) (by omega) hm (by omega) (by rw [hkd]; omega)
  rw [pBin_eq, pIf_d]
  refine ⟨fun _ => ?_, fun _ => ?_⟩
  · -- wrapped
    refine loop_rule (m := 5) (fun mm l st => ∃ (i q' : Nat) (d0 : Bool) (m0 : Int) (t0 : ByteArray) (u0 w0' : Value) (y : Tr), mm + i = 5 ∧ q' ≤ q + 1 + i ∧ RD w0 st b q' ∧ Keeps (σ.del b) (st.del b) ∧ RT (n + 1 + i) (Av.get w0 (st.del b)) [.bool d0, .int .i64 m0, .string t0, u0, w0'] y ∧ szT (n + 1 + i) y ≤ t.size + nmW ns + kdW n ks + 10 * i ∧
        l = [ptr b, .int .i64 (i : Nat), .bool false, .int .i64 0, .string ⟨#[]⟩, .slice none 0 0, .slice none 0 0, .bool d0, .int .i64 m0, .string t0, u0, w0']) ?_
      ⟨0, q + 1, d, m, t, u, w, _, rfl, by omega, hrd1, h1.keeps, RT_down _ _ _ _ _ (h1.tree (d := d) (m := m) (t := t) hm (by omega)) hx, by
        show t.size + (ns.length + sumS ns) + (ks.length + sumBy (szT n) ks) ≤ _
        unfold nmW kdW at *
        omega, rfl⟩
    rintro mm l st L ⟨i, q', d0, m0, t0, u0, w0', y, hmi, hq', hrd, ks0, hy, hys, rfl⟩ hL
    simp only [vget, List.getD_cons_zero, List.getD_cons_succ]
    have hy0 := hy
    obtain ⟨uu, ww, hcells, hmy, hty, hny, hky, hp5⟩ := hy.cells
    simp only [List.cons.injEq, and_true] at hcells
    obtain ⟨ec1, ec2, ec3, rfl, rfl⟩ := hcells
    have hp6 : ∀ A : Prop, pVal true 5 (.agg ⟨[.bool d0, .int .i64 m0, .string t0, u0, w0']⟩) A ↔ A := fun A => pVal_5 rfl rfl rfl hny.one hky.one
    refine spec_pick (n := 2) hrd (by omega) (by omega) fun j2 s2 hj2 hrd2 hd2 _ => ?_
    have k2 : Keeps (st.del b) (s2.del b) := by rw [hd2]; exact Keeps.refl _
    rw [pBin_add (by omega), pBin_lt, pIf_d]
    refine ⟨fun hlt => ?_, fun _ => ?_⟩
    · rw [pVal1 rfl]
      intro n1 g1 g2
      obtain ⟨hne1, hrd3, k3⟩ := hrd2.new (r := ⟨t_string, [.string ⟨#[110]⟩], 1, (0, 0)⟩) g2
      have r1 : (s2.put n1 ⟨t_string, [.string ⟨#[110]⟩], 1, (0, 0)⟩) n1 = some ⟨t_string, [.string ⟨#[110]⟩], 1, (0, 0)⟩ := put_at
      show pVal true 5 _ _
      generalize Vw.put s2 n1 _ = s3 at hrd3 k3 r1
      rw [hp6]
      intro n2 g3 g4
      obtain ⟨hne2, hrd4, k4⟩ := hrd3.new (r := ⟨t_impl_Tree, [.bool d0, .int .i64 m0, .string t0, u0, w0'], 5, (0, 0)⟩) g4
      have hn12 : n1 ≠ n2 := fun e => by rw [← e, r1] at g4; cases g4
      have r2 : (s3.put n2 ⟨t_impl_Tree, [.bool d0, .int .i64 m0, .string t0, u0, w0'], 5, (0, 0)⟩) n2 = some ⟨t_impl_Tree, [.bool d0, .int .i64 m0, .string t0, u0, w0'], 5, (0, 0)⟩ := put_at
      have r1' : (s3.put n2 ⟨t_impl_Tree, [.bool d0, .int .i64 m0, .string t0, u0, w0'], 5, (0, 0)⟩) n1 = some ⟨t_string, [.string ⟨#[110]⟩], 1, (0, 0)⟩ := by rw [put_ne hn12]; exact r1
      show pVal false 1 _ _
      generalize Vw.put s3 n2 _ = s4 at hrd4 k4 r1' r2
      rw [pVal1 rfl, pVal1 rfl, pVal1 rfl, pVal_5 rfl rfl rfl rfl rfl, pBin_add (by omega)]
      have K4 := (k2.trans k3).trans k4
      have e1 : (⟨#[110]⟩ : ByteArray).size = 1 := rfl
      have hr1 : RSl 1 RS (Av.get w0 (s4.del b)) (.slice (some ⟨n1, 0, none⟩) 1 1) [⟨#[110]⟩] := row_strs (xs := [⟨#[110]⟩]) (k := 1) g1 (by rw [del_ne hne1]; exact r1') (fun x hx => by rw [List.mem_singleton.1 hx, e1]; omega) (by simp)
      have hr2 : RSl 5 (RT (n + 1 + i)) (Av.get w0 (s4.del b)) (.slice (some ⟨n2, 0, none⟩) 1 1) [y] := by
        refine ⟨some ⟨n2, 0, none⟩, 1, rfl, by simp, fun jj x hx => ?_⟩
        have hjj : jj = 0 := by have := (List.getElem?_eq_some_iff.1 hx).1; simp at this; exact this
        subst hjj
        cases hx
        refine ⟨_, [.bool d0, .int .i64 m0, .string t0, u0, w0'], rfl, rfl, fun ii hii => ?_, mono_rt _ _ _ _ _ K4.le hy0⟩
        rw [addr_add, get_row g3 (by rw [del_ne hne2]; exact r2)]
        simp
      refine hL _ _ (mm - 1) (by omega) ⟨i + 1, q' + 1, true, 0, ⟨#[]⟩, _, _, .mk true 0 ⟨#[]⟩ [⟨#[110]⟩] [y], by omega, by omega, hrd4, ks0.trans K4, ⟨_, _, rfl, by omega, by show 0 ≤ _; omega, hr1, hr2⟩, ?_, by simp⟩
      show (0 : Nat) + (1 + (1 + 0)) + (1 + (szT (n + 1 + i) y + 0)) ≤ _
      omega
    · show pVal true 5 (.agg ⟨[.bool d0, .int .i64 m0, .string t0, u0, w0']⟩) _
      rw [hp6]
      refine hR _ y s2 (hrd2.more (by omega)) (ks0.trans k2) (RT_le (by omega) (mono_rt _ _ _ _ _ k2.le hy0)) ?_
      rw [sz_more hy0.isT (by omega)]; omega
  · -- full of names
    refine loop_rule (m := 30) (fun mm l st => ∃ (i : Nat) (u' w' : Value) (ns' : List ByteArray) (ks' : List Tr), mm + i = 30 ∧ SP w0 σ b (q + 1) (n + 5) st u' w' ns' ks' ∧ nmW ns' + kdW (n + 5) ks' ≤ nmW ns + kdW n ks + 12 * i ∧
        l = [.int .i64 (i : Nat), .bool false, .int .i64 0, .string ⟨#[]⟩, .slice none 0 0, .slice none 0 0, .bool d, .int .i64 m, .string t, u', w']) ?_ ⟨0, u, w, ns, ks, rfl, h1, by rw [hkd]; omega, rfl⟩
    rintro mm l st L ⟨i, u', w', ns', ks', hmi, hsp, hw', rfl⟩ hL
    simp only [vget, List.getD_cons_zero, List.getD_cons_succ]
    rw [pBin_lt, pIf_d]
    refine ⟨fun hlt => ?_, fun _ => ?_⟩
    · rw [pBin_add (by omega), show (100 : Int) + (i : Nat) = ((100 + i : Nat) : Int) by omega]
      refine spec_l1Dec (by omega) fun s2 k2 => ?_
      have h2 := hsp.next (hsp.rd.kept k2) (keeps_del k2)
      have hz10 := decZ_nat (100 + i)
      have hszd := (decN_size (100 + i)).2
      have hd3 : (decN (100 + i)).size ≤ 3 := by
        rw [decN, size_ofL]
        have : ∀ k : Fin 30, (decL (100 + k.val)).length ≤ 3 := by
          intro k
          rw [decL_big (by omega), decL_big (by omega), decL_small (by omega)]; simp
        exact this ⟨i, by omega⟩
      have e1 : (⟨#[122, 122]⟩ : ByteArray).size = 2 := rfl
      rw [pBin_cat (by rw [hz10, e1]; omega), pVal1 rfl]
      have hl1' : ns'.length ≤ 200000000 := by unfold nmW at hw' hsz; omega
      have hl2' : ks'.length ≤ 200000000 := by unfold kdW at hw' hsz; omega
      refine h2.name (by rw [ByteArray.size_append, hz10, e1]; omega) (by omega) fun u2 s3 h3 => ?_
      rw [pVal1 h3.ones.1, pVal_5 rfl rfl rfl rfl rfl]
      refine h3.kid (N := n + 4) (by omega) fun w2 s4 h4 => ?_
      rw [pVal1 h4.ones.2, pBin_add (by omega)]
      exact hL _ _ (mm - 1) (by omega) ⟨i + 1, u2, w2, _, _, by omega, h4, by rw [nmW_snoc, kdW_snoc, sz_zero, ByteArray.size_append, hz10, e1]; omega, by simp⟩
    · show pVal true 5 (.agg ⟨[.bool d, .int .i64 m, .string t, u', w']⟩) _
      exact fin hsp (by omega) hm (by omega) (by omega)
theorem spec_l4Spoil : ∀ (n : Nat) {σ : Vw} {b p : Nat} {es : List Value} {x : Tr} {R : Value → Vw → Prop}, RD w0 σ b p → p + 20 * n ≤ 900000 → RT n (Av.get w0 (σ.del b)) es x → szT n x ≤ 90000000 → OutTR w0 σ b (p + 20 * n) (n + 5) (szT n x + 400) R → AC Tryz.prog w0 n_spec_l4Spoil [ptr b, .agg ⟨es⟩] σ R
  | 0, _, _, _, _, _, _, _, _, h, _, _ => h.elim
  | n + 1, σ, b, p, es, .mk d m t ns ks, R, h, hp, ht, hsz, hR => by
    have ht0 := ht
    have hkT : ∀ k, k ∈ ks → IsT n k := fun k hk => isT_kid (x := .mk d m t ns ks) ht.isT hk
    obtain ⟨c0, c1, c2, c3, c4, rfl, hp5⟩ := ht.shape
    obtain ⟨u0, w0', hcells, hmr, htr, hny, hky, _⟩ := ht.cells
    have hszx : szT (n + 1) (.mk d m t ns ks) = t.size + nmW ns + kdW n ks := rfl
    rw [hszx] at hsz hR
    refine ac_spec_l4Spoil ?_
    unfold vc_spec_l4Spoil cs_spec_l4Spoil_1
    rw [hp5]
    simp only [cellOf_agg, List.getD_cons_zero, List.getD_cons_succ]
    refine copy_sp (N := n + 5) h ht0 (fit_of _ _ (by rw [hszx]; omega)) (by omega) fun u w s hsp => ?_
    obtain ⟨o1, o2⟩ := hsp.ones
    rw [pVal_5 rfl rfl rfl o1 o2]
    simp only [cellOf_agg, List.getD_cons_zero, List.getD_cons_succ]
    have hl : ∀ {K : Value → Prop}, pLen w K ↔ K (.int .i64 (ks.length : Nat)) := by
      obtain ⟨F1, F2, _, _, _, _, _, _, h7⟩ := hsp
      exact ((OAcc.osl h7).rel (ok_base (rok_rt (n + 5)) w0 _)).len
    have hl2 : ks.length ≤ 90000000 := by unfold kdW at hsz; omega
    have here : ∀ (s' : Vw) (q : Nat), SP w0 σ b q (n + 5) s' u w ns ks → q + 15 ≤ p + 20 * (n + 1) → VSW w0 (ptr b) (.bool d) (.int .i64 m) (.string t) u w s' R := fun s' q h' hq =>
      spoil_here h' (by omega) hmr (by omega) hkT ht0.isT (by omega) fun es y s'' r1 r2 r3 r4 => hR es y s'' (r1.more hq) r2 r3 r4
    rw [hl, pBin_gt, pIf_d]
    refine ⟨fun hpos => ?_, fun _ => here s p hsp (by omega)⟩
    refine spec_pick (n := 2) hsp.rd (by omega) (by omega) fun j s1 hj hrd1 hd1 _ => ?_
    have k1 : Keeps (s.del b) (s1.del b) := by rw [hd1]; exact Keeps.refl _
    have h1 := hsp.next hrd1 k1
    rw [pBin_eq, pIf_d]
    refine ⟨fun _ => ?_, fun _ => here s1 (p + 1) h1 (by omega)⟩
    rw [hl]
    refine spec_pick hrd1 (by omega) (by omega) fun k s2 hk hrd2 hd2 _ => ?_
    have k2 : Keeps (s1.del b) (s2.del b) := by rw [hd2]; exact Keeps.refl _
    obtain ⟨F1, F2, q1, q2, q3, q4, q5, q6, q7⟩ := h1.next hrd2 k2
    have okB := ok_base (rok_rt (n + 5)) w0 (Av.get w0 (s2.delF (b :: (F1 ++ F2))))
    have hkx := List.getElem?_eq_getElem hk
    generalize ks[k]'hk = y at hkx
    have hyT := hkT y (List.mem_of_getElem? hkx)
    have hym : szT n y ≤ kdW n ks := by have := sumBy_mem (f := szT n) (List.mem_of_getElem? hkx); unfold kdW; omega
    refine ((OAcc.osl q7).rel okB).at hkx fun g hg => ?_
    have hg : RT (n + 5) (Av.get w0 (s2.delF (b :: (F1 ++ F2)))) (expl g 0 5) y := hg
    have hbG : b ∉ F1 ++ F2 := fun hb => by
      rcases List.mem_append.1 hb with e | e
      · exact (q3 b e).2 rfl
      · exact (q4 b e).2 rfl
    have hrdF : RD w0 (s2.delF (F1 ++ F2)) b (p + 1 + 1) := q1.keep (delF_out hbG)
    refine AC.hideF (F := F1 ++ F2) (R := fun v s' => RD w0 s' b (p + 1 + 1 + 20 * n) ∧ Keeps (s2.delF (b :: (F1 ++ F2))) (s'.del b) ∧ ∃ ey z, v = .agg ⟨ey⟩ ∧ RT (n + 5) (Av.get w0 (s'.del b)) ey z ∧ szT (n + 5) z ≤ szT n y + 400)
      (spec_l4Spoil n hrdF (by omega) (RT_down _ _ _ _ _ (by rw [del_delF]; exact hg) hyT) (by omega) fun ey z s' r1 r2 r3 r4 => ⟨r1, by rw [← del_delF]; exact r2, ey, z, rfl, r3, r4⟩) fun v s' hn hh => ?_
    obtain ⟨r1, r2, ey, z, rfl, r3, r4⟩ := hh
    -- the rows that were kept from it come back
    have hdom : ∀ i, i ∈ F1 ++ F2 → s2 i ≠ none := fun i hi => by
      rcases List.mem_append.1 hi with e | e
      · exact (q6.dom (ok_str w0) i e).2
      · exact (q7.dom okB i e).2
    have hdm : (s2.mergeF (F1 ++ F2) s').delF (F1 ++ F2) = s' := delF_mergeF fun i hi => hn i hi (hdom i hi)
    have hmo : ∀ i, i ∉ F1 ++ F2 → (s2.mergeF (F1 ++ F2) s') i = s' i := fun i hi => mergeF_out hi
    have hmi : ∀ i, i ∈ F1 ++ F2 → (s2.mergeF (F1 ++ F2) s') i = s2 i := fun i hi => mergeF_in hi
    generalize s2.mergeF (F1 ++ F2) s' = s3 at hdm hmo hmi
    have hbase : s'.del b = s3.delF (b :: (F1 ++ F2)) := by rw [← hdm, del_delF]
    rw [hbase] at r2 r3
    have hrd3 : RD w0 s3 b (p + 1 + 1 + 20 * n) := r1.keep (hmo b hbG)
    have k23 : Keeps (s2.del b) (s3.del b) := fun i r hi => by
      obtain ⟨e1, e2⟩ := del_some hi
      rw [del_ne e1]
      by_cases hi' : i ∈ F1 ++ F2
      · rw [hmi i hi']; exact e2
      · have hib : i ∉ b :: (F1 ++ F2) := fun h => by
          rcases List.mem_cons.1 h with h | h
          · exact e1 h
          · exact hi' h
        have := r2 i r (by rw [delF_out hib]; exact e2)
        rw [delF_out hib] at this
        exact this
    have q7' : OAcc w0 t_impl_Tree 5 (OB (RT (n + 5)) (Av.get w0 (s3.delF (b :: (F1 ++ F2))))) s3 F2 w ks :=
      OAcc.rebase (rok_rt (n + 5)) (OAcc.frame okB q7 fun i hi => hmi i (List.mem_append_right _ hi)) r2.le
    have okB' := ok_base (rok_rt (n + 5)) w0 (Av.get w0 (s3.delF (b :: (F1 ++ F2))))
    have q6' : OAcc w0 t_string 1 OStr s3 F1 u ns := q6.frame (ok_str w0) fun i hi => hmi i (List.mem_append_left _ hi)
    have hr3 := r3
    obtain ⟨e0, e1, e2, e3, e4, rfl, hp6⟩ := r3.shape
    refine pIndexAddr_mono (OSl.store okB' (y := z) (new := [e0, e1, e2, e3, e4]) (OAcc.osl q7') hkx (fun f c s'' ho => ⟨ho.1, hr3⟩) rfl (K := fun s4 => pVal true 5 (.agg (⟨[.bool d, .int .i64 m, .string t, u, w]⟩)) (R (.agg (⟨[.bool d, .int .i64 m, .string t, u, w]⟩)) s4)) fun s4 k34 o4 => ?_) fun pp hh => by
      rw [hp6]
      simp only [cellOf_agg, List.getD_cons_zero, List.getD_cons_succ]
      exact hh
    rw [pVal_5 rfl rfl rfl o1 o2]
    have hbF2 : b ∉ F2 := fun h => hbG (List.mem_append_right _ h)
    have hs4b : s4 b = s3 b := by
      cases hb : s3 b with
      | none => exact absurd hb hrd3.at
      | some r => exact k34 b r hb hbF2
    have K4 : Keeps (σ.del b) (s4.del b) := fun i r hi => by
      obtain ⟨e1', e2'⟩ := del_some hi
      have e3' := (q2.trans k23) i r hi
      rw [del_ne e1'] at e3' ⊢
      exact k34 i r e3' fun hf => by rw [(q4 i hf).1] at hi; cases hi
    have hnm : RSl 1 RS (Av.get w0 (s4.del b)) u ns := (OSl.frame (σ' := s4.del b) (ok_str w0) q6'.osl fun i hi => by
      rw [del_ne (q3 i hi).2]
      cases hs : s3 i with
      | none => exact absurd hs (q6'.dom (ok_str w0) i hi).2
      | some r => exact k34 i r hs (q5 i hi)).rel (ok_str w0)
    have hkd : RSl 5 (RT (n + 5)) (Av.get w0 (s4.del b)) w (ks.set k z) := by
      refine RSl.unbase (rok_rt (n + 5)) ((OSl.frame (σ' := s4.del b) okB' o4 fun i hi => del_ne (q4 i hi).2).rel okB') (Keeps.le fun i r hi => ?_)
      obtain ⟨g1, g2⟩ := delF_some hi
      have g3 : i ≠ b := fun e => g1 (by simp [e])
      rw [del_ne g3]
      exact k34 i r g2 fun e => g1 (by simp [e])
    refine hR _ (.mk d m t ns (ks.set k z)) s4 ((hrd3.keep hs4b).more (by omega)) K4 ⟨u, w, rfl, hmr, htr, hnm, hkd⟩ ?_
    show t.size + (ns.length + sumS ns) + ((ks.set k z).length + sumBy (szT (n + 5)) (ks.set k z)) ≤ _
    have hset := sumBy_set (f := szT (n + 5)) (y := z) hkx
    have hyy : szT (n + 5) y = szT n y := sz_more hyT (by omega)
    have hkk := kdW_more hkT (show n ≤ n + 5 by omega)
    rw [List.length_set]
    unfold nmW kdW at *
    omega

theorem spec_l4Any {b p : Nat} (h : RD w0 σ b p) (hp : p ≤ 700000) {R : Value → Vw → Prop} (hR : OutTR w0 σ b (p + 1000) 16 50000000 R) : AC Tryz.prog w0 n_spec_l4Any [ptr b] σ R := by
  refine ac_spec_l4Any ?_
  unfold vc_spec_l4Any
  refine spec_pick (n := 24) h (by omega) (by omega) fun j s1 hj hrd1 hd1 _ => ?_
  have k1 : Keeps (σ.del b) (s1.del b) := by rw [hd1]; exact Keeps.refl _
  have out : ∀ {es : List Value} {y : Tr} {s : Vw} {q N : Nat}, RD w0 s b q → q ≤ p + 1000 → Keeps (σ.del b) (s.del b) → RT N (Av.get w0 (s.del b)) es y → N ≤ 16 → szT N y ≤ 50000000 → pVal true 5 (.agg ⟨es⟩) (R (.agg (⟨[cellOf (.agg ⟨es⟩) 0, cellOf (.agg ⟨es⟩) 1, cellOf (.agg ⟨es⟩) 2, cellOf (.agg ⟨es⟩) 3, cellOf (.agg ⟨es⟩) 4]⟩)) s) := fun {es y s q N} r1 r2 r3 r4 r5 r6 => by
    have r40 := r4
    obtain ⟨f0, f1, f2, f3, f4, rfl, hp7⟩ := r4.shape
    rw [hp7]
    simp only [cellOf_agg, List.getD_cons_zero, List.getD_cons_succ]
    exact hR _ y s (r1.more r2) r3 (RT_le r5 r40) (by rw [sz_more r40.isT r5]; exact r6)
  rw [pBin_eq, pIf_d]
  refine ⟨fun _ => ?_, fun _ => ?_⟩
  · refine spec_l4Tree hrd1 (by omega) fun es y s2 hrd2 k2 hy hys => ?_
    refine spec_l4Spoil 11 hrd2 (by omega) hy (by omega) fun es' z s3 hrd3 k3 hz hzs => ?_
    exact out hrd3 (by omega) ((k1.trans k2).trans k3) hz (Nat.le_refl _) (by omega)
  rw [pBin_eq, pIf_d]
  refine ⟨fun _ => ?_, fun _ => ?_⟩
  · refine spec_l4Full hrd1 (by omega) fun es y s2 hrd2 k2 hy hys => ?_
    exact out hrd2 (by omega) (k1.trans k2) hy (by omega) (by omega)
  · refine spec_l4Tree hrd1 (by omega) fun es y s2 hrd2 k2 hy hys => ?_
    exact out hrd2 (by omega) (k1.trans k2) hy (by omega) (by omega)
end
end Go.Proofs.YtkbhjejalkbogaaGreatDoor

/- What the laws on trees draw; trees and lists of texts compared; all paths of a tree. -/
set_option linter.unusedVariables false
set_option linter.unusedSimpArgs false
set_option maxRecDepth 20000
namespace Go.Proofs.YtkbhjejalkbogaaGreatDoor
open Go Go.Av Go.RowKit

abbrev Bytes (w0 : World) (u : Value) (bs : List Nat) : Prop := RSl 1 RU8 (Av.get w0 (fun _ => none)) u bs
theorem Bytes.len {w0 : World} {u : Value} {bs : List Nat} (h : Bytes w0 u bs) {K : Value → Prop} : pLen u K ↔ K (.int .i64 (bs.length : Nat)) := RSl.len h

section
variable {w0 : World} {σ : Vw}

theorem draw_keeps {b : Nat} {s1 s : Vw} (h1 : s1.del b = σ) (k : Keeps (s1.del b) (s.del b)) : Keeps σ s := by rw [h1] at k; exact k.trans del_keeps
theorem int_at {n m k : Nat} {xs : List Int} {ety : Nat} {s : Vw} (hn : w0.heap.size ≤ n) (hs : s n = some ⟨ety, xs.map (Value.int .i64), (xs.map (Value.int .i64)).length, (0, 0)⟩) (hm : xs.length = m) (hk : k < m) {K : (Nat → Value) → Prop} (hK : ∀ (x : Int), x ∈ xs → ∀ g : Nat → Value, g 0 = .int .i64 x → K g) :
    pIndexAddr 1 (.slice (some (Addr.mk n 0 none)) m m) (.int .i64 (k : Nat)) (fun v => pLoad w0 1 v s K) := by
  subst hm
  refine ⟨⟨n, 0, none⟩, xs.length, xs.length, .i64, k, rfl, rfl, by omega, by omega, ?_⟩
  refine ⟨_, fun _ => .int .i64 xs[k], rfl, fun i hi => ?_, hK _ (List.getElem_mem hk) _ rfl⟩
  have e : i = 0 := by omega
  subst e
  rw [add_add, addr_add, get_row hn hs]
  simp only [Int.toNat_natCast, Nat.mul_one, Nat.add_zero, Nat.zero_add, List.getElem?_map, List.getElem?_eq_getElem hk, Option.map_some]

theorem wtTexts {v v' : Value} {xs ys : List ByteArray} (h : RSl 1 RS (Av.get w0 σ) v xs) (h' : RSl 1 RS (Av.get w0 σ) v' ys) {R : Value → Vw → Prop} (hR : R (.bool (decide (xs = ys))) σ) : AC Tryz.prog w0 n_laws_wtTexts [v, v'] σ R := by
  refine ac_laws_wtTexts ?_
  unfold vc_laws_wtTexts
  have hl : xs.length ≤ 9223372036854775807 := h.le
  rw [h.len, h'.len, pBin_ne, pIf_d]
  refine ⟨fun hne => ?_, fun heq => ?_⟩
  · have : xs ≠ ys := fun e => hne (by rw [e])
    simpa [this] using hR
  · have hlen : xs.length = ys.length := by omega
    refine loop_rule (m := xs.length) (fun m l s => ∃ j, s = σ ∧ m + j = xs.length ∧ xs.take j = ys.take j ∧ l = [v, v', .bool false, .int .i64 (j : Nat)]) ?_ ⟨0, rfl, by omega, by simp, rfl⟩
    rintro m l s L ⟨j, rfl, hm, ht, rfl⟩ hL
    simp only [vget, List.getD_cons_zero, List.getD_cons_succ]
    rw [h.len, pBin_lt, pIf_d]
    refine ⟨fun hj => ?_, fun hj => ?_⟩
    · have hx := List.getElem?_eq_getElem (show j < xs.length by omega)
      have hy := List.getElem?_eq_getElem (show j < ys.length by omega)
      refine RSl.at1 h hx fun g hg _ => ?_
      refine RSl.at1 h' hy fun g' hg' _ => ?_
      rw [hg, hg', pBin_sne, pIf_d]
      refine ⟨fun hne => ?_, fun heq => ?_⟩
      · have : xs ≠ ys := fun e => by subst e; exact hne rfl
        simpa [this] using hR
      · rw [pBin_add (by omega)]
        refine hL _ _ (m - 1) (by omega) ⟨j + 1, rfl, by omega, ?_, rfl⟩
        rw [List.take_add_one, List.take_add_one, hx, hy, ht, Decidable.not_not.1 heq]
    · have hj' : j = xs.length := by omega
      subst hj'
      rw [List.take_length, hlen, List.take_length] at ht
      subst ht
      simpa using hR

end
end Go.Proofs.YtkbhjejalkbogaaGreatDoor

/- How a code is opened that came with the call. -/
set_option linter.unusedVariables false
set_option linter.unusedSimpArgs false
namespace Go.Proofs.YtkbhjejalkbogaaGreatDoor
open Go Go.Av Go.RowKit

theorem open_byte {H : Type} {enc : TypeId × Value → H} {W : World} {spare : Nat → Bool} (fuel : Nat) (es : List Value) (y : DataW H × List MemPlace) (h : DataW.trod enc Tryz.prog W 0 spare true fuel t_uint8 es = some y) (hl : es.length = 1) : ∃ x, RU8 (Av.get W σ0) es x := by
  have hT : Tryz.prog.underlying t_uint8 = some (.int .u8) := by kernel_rfl
  obtain ⟨n, rfl, _, hw⟩ := DataW.trod_int hT h
  have e1 : IntKind.u8.min = 0 := by decide
  have e2 : IntKind.u8.max = 255 := by decide
  simp only [Lit.wf, Bool.and_eq_true, decide_eq_true_eq, e1, e2] at hw
  exact ⟨n.toNat, by rw [Int.toNat_of_nonneg hw.1], by omega⟩
end Go.Proofs.YtkbhjejalkbogaaGreatDoor

/- 'DiffWalk': two trees in step, by either hand; the law. -/
set_option linter.unusedVariables false
set_option linter.unusedSimpArgs false
set_option maxRecDepth 20000
namespace Go.Proofs.YtkbhjejalkbogaaGreatDoor
open Go Go.Av

noncomputable def diffX (n m : Nat) (x y : Tr) : List En := if treeOk n x = true ∧ treeOk m y = true then walkE 5 [] (some x) (some y) else []
/-- What a sound tree is. -/
theorem ok_fine {n : Nat} {x : Tr} (h : treeOk n x = true) : (∀ rd es, RT n rd es x → RT 5 rd es x) ∧ shortT 5 x ∧ cntT 5 x ≤ 30 ∧ ascT 5 x := by
  have h0 := h
  simp only [treeOk, Bool.and_eq_true, decide_eq_true_eq] at h
  obtain ⟨h1, h2, h3⟩ := sound_down5 5 n x 0 h.2.1 (by omega)
  exact ⟨h1, h2, by omega, sound_asc 5 n x 0 h.2.1⟩

section
variable {w0 : World} {σ : Vw}

theorem spec_DiffWalk {n m : Nat} {es es' : List Value} {x y : Tr} (h : RT n (Av.get w0 σ) es x) (h' : RT m (Av.get w0 σ) es' y) (hb : cntT n x ≤ 1000000000000) (hb' : cntT m y ≤ 1000000000000) {R : Value → Vw → Prop}
    (hR : ∀ v F σ', Keeps σ σ' → OSl w0 5 (OEn w0) σ' F v (diffX n m x y) → (∀ i, i ∈ F → σ i = none) → R v σ') : AC Tryz.prog w0 n_spec_DiffWalk [.agg ⟨es⟩, .agg ⟨es'⟩] σ R := by
  have h0 := h
  have h0' := h'
  obtain ⟨e0, e1, e2, e3, e4, rfl, _, hpv⟩ := RT.five h
  obtain ⟨e0', e1', e2', e3', e4', rfl, _, hpv'⟩ := RT.five h'
  refine ac_spec_DiffWalk ?_
  unfold vc_spec_DiffWalk
  rw [hpv, hpv']
  simp only [cellOf_agg, List.getD_cons_zero, List.getD_cons_succ]
  have no : ¬ (treeOk n x = true ∧ treeOk m y = true) → ∀ b, w0.heap.size ≤ b → σ b = none → R (.slice (some ⟨b, 0, none⟩) 0 0) (σ.put b ⟨t_impl_Entry, [], 0, (0, 0)⟩) := fun hno b hb1 hb2 => by
    refine hR _ [b] _ (Keeps.put hb2) ?_ fun i hi => by rw [List.mem_singleton.1 hi]; exact hb2
    rw [diffX, if_neg hno]
    exact (OAcc.new (O := OEn w0) hb1).osl
  refine spec_TreeOk h0 hb (pNotIf.2 ⟨fun hno => no (by rw [hno]; simp), fun hok => ?_⟩)
  refine spec_TreeOk h0' hb' (pNotIf.2 ⟨fun hno => no (by rw [hno]; simp), fun hok' => ?_⟩)
  obtain ⟨d1, x1, c1, _⟩ := ok_fine hok
  obtain ⟨d2, x2, c2, _⟩ := ok_fine hok'
  intro b hb1 hb2
  have k1 : Keeps σ (σ.put b ⟨t_string, [], 0, (0, 0)⟩) := Keeps.put hb2
  have hp : RSl 1 RS (Av.get w0 (σ.put b ⟨t_string, [], 0, (0, 0)⟩)) (.slice (some ⟨b, 0, none⟩) 0 0) [] := (OAcc.new (w0 := w0) (σ := σ) (ety := t_string) (n := 1) (O := OStr) hb1).osl.rel (ok_str w0)
  refine spec_walk 5 hp (mono_rt 5 _ _ _ _ k1.le (d1 _ _ h0)) (mono_rt 5 _ _ _ _ k1.le (d2 _ _ h0')) x1 x2 (by omega) (by omega) (by simp [sumS]) fun v G s2 k2 o2 f2 => ?_
  refine hR v G s2 (k1.trans k2) ?_ fun i hi => none_old k1 (f2 i hi)
  rw [diffX, if_pos ⟨hok, hok'⟩]
  exact o2.osl

theorem walkE_path : ∀ (n : Nat) (ps : List ByteArray) (a b : Option Tr) (e : En), e ∈ walkE n ps a b → e.1.length ≤ ps.length + n
  | 0, _, _, _, e, h => by simp [walkE] at h
  | _ + 1, _, none, none, e, h => by simp [walkE] at h
  | n + 1, ps, none, some b, e, h => by
    simp only [walkE] at h
    obtain ⟨k, qs, z, rfl, hq, _⟩ := lin_mem _ _ _ h
    exact hq
  | n + 1, ps, some _, none, e, h => by
    simp only [walkE, List.mem_singleton] at h
    subst h
    show ps.length ≤ _; omega
  | n + 1, ps, some a, some b, e, h => by
    simp only [walkE] at h
    split at h
    · rcases List.mem_append.1 h with h | h
      · have : e.1 = ps := by
          unfold partE at h
          rcases List.mem_append.1 h with h | h <;> split at h <;> simp at h <;> rw [h]
        rw [this]; omega
      · obtain ⟨l, hl, he⟩ := List.mem_flatten.1 h
        obtain ⟨z, hz, rfl⟩ := List.mem_map.1 hl
        have := walkE_path n _ _ _ _ he
        rw [List.length_append] at this
        simp at this; omega
    · rcases List.mem_cons.1 h with h | h
      · subst h
        show ps.length ≤ _; omega
      · obtain ⟨k, qs, z, rfl, hq, _⟩ := lin_mem _ _ _ h
        exact hq
theorem diffX_sum {n m : Nat} {x y : Tr} : sumBy cEn (diffX n m x y) ≤ 10000 := by
  unfold diffX
  split
  · rename_i hok
    obtain ⟨_, _, c1, _⟩ := ok_fine hok.1
    obtain ⟨_, _, c2, _⟩ := ok_fine hok.2
    have h1 := walkE_len 5 [] (some x) (some y)
    simp only [cntO] at h1
    have h2 : sumBy cEn (walkE 5 [] (some x) (some y)) ≤ 9 * (walkE 5 [] (some x) (some y)).length := sumBy_bound fun e he => by
      have := walkE_path _ _ _ _ _ he
      simp only [List.length_nil] at this
      simp only [cEn]; omega
    omega
  · simp [sumBy]

end
end Go.Proofs.YtkbhjejalkbogaaGreatDoor

/- Marks put in their order; the deepest of them made coarser: the pure part of 'TrailAdd'. -/
set_option linter.unusedVariables false
set_option linter.unusedSimpArgs false
namespace Go.Proofs.YtkbhjejalkbogaaGreatDoor
open Go Go.Av

/-! ### The order of paths -/
/-! ### What lies within what -/
/-! ### A mark put in -/
def insF (m : Mk) : List Mk → List Mk
  | [] => [m]
  | x :: r => if lexLt m.1 x.1 = true then m :: x :: r else x :: insF m r
def keepM (m x : Mk) : Bool := !(m.2 && within x.1 m.1)
def markedB (l : List Mk) (p : List ByteArray) : Bool := underB l p || l.any fun x => decide (x.1 = p)
def putM (l : List Mk) (m : Mk) : List Mk := if (underB l m.1 || (!m.2 && markedB l m.1)) = true then l else insF m (l.filter (keepM m))
/-! ### The deepest of the marks -/
def lenAt (l : List Mk) (j : Nat) : Nat := match l[j]? with
  | some x => x.1.length
  | none => 0
def bestTo (l : List Mk) : Nat → Nat
  | 0 => 0
  | k + 1 => if lenAt l (bestTo l k) ≤ lenAt l k then k else bestTo l k
def bestM (l : List Mk) : Mk := (l[bestTo l l.length]?).getD ([], false)
def upM (x : Mk) : Mk := (x.1.take (x.1.length - 1), true)
def coarseM (l : List Mk) : List Mk := putM l (upM (bestM l))
/-- Coarser and coarser, till it is not too long. -/
inductive Lp : List Mk → List Mk → Prop
  | stop {l : List Mk} (h : l.length ≤ 6) : Lp l l
  | step {l r : List Mk} (h : 6 < l.length) (h' : Lp (coarseM l) r) : Lp l r
end Go.Proofs.YtkbhjejalkbogaaGreatDoor

/- Marks: what is under, what is marked, by either hand; the sort of marks of which only the last stands wrong. -/
set_option linter.unusedVariables false
set_option linter.unusedSimpArgs false
namespace Go.Proofs.YtkbhjejalkbogaaGreatDoor
open Go Go.Av

section
variable {w0 : World} {σ : Vw}

/-! ### The sort -/
end
end Go.Proofs.YtkbhjejalkbogaaGreatDoor

/- How many paths there are in either of two parts; whether all that differs is marked; what a trail leads to: the pure part. -/
set_option linter.unusedVariables false
set_option linter.unusedSimpArgs false
set_option maxRecDepth 20000
namespace Go.Proofs.YtkbhjejalkbogaaGreatDoor
open Go Go.Av

theorem mrgK_mem : ∀ (xa xb : List (ByteArray × Tr)) (z : Pr), z ∈ mrgK xa xb → ((∃ k, z.2.1 = some k ∧ (z.1, k) ∈ xa) ∧ (z.2.2 = none ∨ ∃ k n, z.2.2 = some k ∧ (n, k) ∈ xb)) ∨ (z.2.1 = none ∧ ∃ k, z.2.2 = some k ∧ (z.1, k) ∈ xb)
  | [], xb, z, h => by
    rw [mrgK] at h
    obtain ⟨y, hy, rfl⟩ := List.mem_map.1 h
    exact .inr ⟨rfl, y.2, rfl, hy⟩
  | a :: xa, [], z, h => by
    rw [mrgK] at h
    obtain ⟨y, hy, rfl⟩ := List.mem_map.1 h
    exact .inl ⟨⟨y.2, rfl, hy⟩, .inl rfl⟩
  | a :: xa, b :: xb, z, h => by
    rw [mrgK] at h
    split at h
    · rcases List.mem_cons.1 h with rfl | h
      · exact .inl ⟨⟨a.2, rfl, List.mem_cons_self⟩, .inl rfl⟩
      · rcases mrgK_mem xa (b :: xb) z h with ⟨⟨k, h1, h2⟩, h3⟩ | h3
        · exact .inl ⟨⟨k, h1, List.mem_cons_of_mem _ h2⟩, h3⟩
        · exact .inr h3
    · split at h
      · rcases List.mem_cons.1 h with rfl | h
        · exact .inr ⟨rfl, b.2, rfl, List.mem_cons_self⟩
        · rcases mrgK_mem (a :: xa) xb z h with ⟨h1, h3 | ⟨k, n, h2, h3⟩⟩ | ⟨h1, k, h2, h3⟩
          · exact .inl ⟨h1, .inl h3⟩
          · exact .inl ⟨h1, .inr ⟨k, n, h2, List.mem_cons_of_mem _ h3⟩⟩
          · exact .inr ⟨h1, k, h2, List.mem_cons_of_mem _ h3⟩
      · rcases List.mem_cons.1 h with rfl | h
        · exact .inl ⟨⟨a.2, rfl, List.mem_cons_self⟩, .inr ⟨b.2, b.1, rfl, List.mem_cons_self⟩⟩
        · rcases mrgK_mem xa xb z h with ⟨⟨k, h1, h2⟩, h3 | ⟨k', n, h3, h4⟩⟩ | ⟨h1, k, h2, h3⟩
          · exact .inl ⟨⟨k, h1, List.mem_cons_of_mem _ h2⟩, .inl h3⟩
          · exact .inl ⟨⟨k, h1, List.mem_cons_of_mem _ h2⟩, .inr ⟨k', n, h3, List.mem_cons_of_mem _ h4⟩⟩
          · exact .inr ⟨h1, k, h2, List.mem_cons_of_mem _ h3⟩
termination_by xa xb => xa.length + xb.length

/-- How many paths there are in either of two parts, of which either may not be there. -/
noncomputable def unT : Nat → Option Tr → Option Tr → Nat
  | 0, _, _ => 0
  | _ + 1, none, none => 0
  | n + 1, none, some b => cntT (n + 1) b + 1
  | n + 1, some a, none => cntT (n + 1) a + 1
  | n + 1, some a, some b => 1 + sumBy (fun z : Pr => unT n z.2.1 z.2.2) (mrgK (partsOf a) (partsOf b))
def leadsB (ms : List Mk) (ps : List ByteArray) : Bool := ms.any fun m => within m.1 ps
/-- At how many paths one looks. -/
noncomputable def lookN : Nat → List Mk → List ByteArray → Option Tr → Option Tr → Nat
  | 0, _, _, _, _ => 0
  | _ + 1, _, _, none, none => 0
  | n + 1, _, _, none, some b => cntT (n + 1) b + 1
  | _ + 1, _, _, some _, none => 1
  | n + 1, ms, ps, some a, some b =>
    if isDir a = isDir b then
      if underB ms ps = true then unT (n + 1) (some a) (some b)
      else 1 + sumBy (fun z : Pr => if leadsB ms (ps ++ [z.1]) = true then lookN n ms (ps ++ [z.1]) z.2.1 z.2.2 else 0) (mrgK (partsOf a) (partsOf b))
    else cntT (n + 1) b + 1

end Go.Proofs.YtkbhjejalkbogaaGreatDoor

/- The names of either of two parts, put in one by one; how many paths there are in either: by either hand. -/
set_option linter.unusedVariables false
set_option linter.unusedSimpArgs false
set_option maxRecDepth 20000
namespace Go.Proofs.YtkbhjejalkbogaaGreatDoor
open Go Go.Av

section
variable {w0 : World} {σ : Vw}

end
end Go.Proofs.YtkbhjejalkbogaaGreatDoor

/- Marks put in and made coarser by the reference's hand. -/
set_option linter.unusedVariables false
set_option linter.unusedSimpArgs false
namespace Go.Proofs.YtkbhjejalkbogaaGreatDoor
open Go Go.Av

section
variable {w0 : World} {σ : Vw}

end
end Go.Proofs.YtkbhjejalkbogaaGreatDoor

/- The trail to which a mark is added, by the reference's hand. -/
set_option linter.unusedVariables false
set_option linter.unusedSimpArgs false
namespace Go.Proofs.YtkbhjejalkbogaaGreatDoor
open Go Go.Av

section
variable {w0 : World} {σ : Vw}

end
end Go.Proofs.YtkbhjejalkbogaaGreatDoor

/- The trail to which a mark is added, by the program's hand. -/
set_option linter.unusedVariables false
set_option linter.unusedSimpArgs false
namespace Go.Proofs.YtkbhjejalkbogaaGreatDoor
open Go Go.Av

section
variable {w0 : World} {σ : Vw}

end
end Go.Proofs.YtkbhjejalkbogaaGreatDoor

/- The law 'TrailAdd', of the functions alone. -/
set_option linter.unusedVariables false
set_option linter.unusedSimpArgs false
namespace Go.Proofs.YtkbhjejalkbogaaGreatDoor
open Go Go.Av

section
variable {w0 : World} {σ : Vw}

end
end Go.Proofs.YtkbhjejalkbogaaGreatDoor

/- How many paths there are in either of two parts, by the program's hand; 'TrailBelow' and its law. -/
set_option linter.unusedVariables false
set_option linter.unusedSimpArgs false
set_option maxRecDepth 20000
namespace Go.Proofs.YtkbhjejalkbogaaGreatDoor
open Go Go.Av

section
variable {w0 : World} {σ : Vw}

end
end Go.Proofs.YtkbhjejalkbogaaGreatDoor

/- Trails that are drawn: calls played with a trail, marks, trails. -/
set_option linter.unusedVariables false
set_option linter.unusedSimpArgs false
set_option maxRecDepth 20000
namespace Go.Proofs.YtkbhjejalkbogaaGreatDoor
open Go Go.Av Go.RowKit

section
variable {w0 : World} {σ : Vw}

theorem nilPath {rd : Addr → Option Value} {A : Option Addr} : RSl 1 RS rd (.slice A 0 0) [] := ⟨A, 0, rfl, by simp, fun j x h => by simp at h⟩
end
end Go.Proofs.YtkbhjejalkbogaaGreatDoor

/- Trails that are drawn and spoilt; what the laws on trails draw. -/
set_option linter.unusedVariables false
set_option linter.unusedSimpArgs false
set_option maxRecDepth 20000
namespace Go.Proofs.YtkbhjejalkbogaaGreatDoor
open Go Go.Av Go.RowKit

section
variable {w0 : World} {σ : Vw}

theorem stay_at {s s' : Vw} {b o n : Nat} (h : s' b = s b) : Stay w0 s s' (.pointer (some ⟨b, o, none⟩)) n := fun a g e hc j hj => by
  cases e
  have := hc j hj
  rw [addr_add] at this ⊢
  have e2 : Av.get w0 s' ⟨b, o + j, none⟩ = Av.get w0 s ⟨b, o + j, none⟩ := by simp [Av.get, h]
  rw [e2]; exact this

theorem field_ldp {b o off : Nat} {r : Row} {A c C : List Value} {y : Value} {K : Value → (Nat → Value) → Prop} (hb : w0.heap.size ≤ b) (hr : σ b = some r) (hc : r.cells = A ++ (c ++ C)) (hA : A.length = o) (hoff : c[off]? = some y)
    (hK : ∀ g : Nat → Value, g 0 = y → K (.pointer (some ⟨b, o + off, none⟩)) g) : pField off (.pointer (some ⟨b, o, none⟩)) fun q => pLoad w0 1 q σ (K q) := by
  rw [pField_s, addr_add]
  refine ⟨_, fun _ => y, rfl, fun j hj => ?_, hK _ rfl⟩
  have e : j = 0 := by omega
  subst e
  rw [addr_add, get_row hb hr, Nat.add_zero, hc, ← hA, List.getElem?_append_right (by omega), Nat.add_sub_cancel_left, List.getElem?_append_left (List.getElem?_eq_some_iff.1 hoff).1]
  exact hoff

end
end Go.Proofs.YtkbhjejalkbogaaGreatDoor

/- Whether all that differs is marked, by either hand; 'TrailCovers' and its law. -/
set_option linter.unusedVariables false
set_option linter.unusedSimpArgs false
set_option maxRecDepth 20000
namespace Go.Proofs.YtkbhjejalkbogaaGreatDoor
open Go Go.Av

section
variable {w0 : World} {σ : Vw}

end
end Go.Proofs.YtkbhjejalkbogaaGreatDoor

/- What a trail leads to, by the program's hand. -/
set_option linter.unusedVariables false
set_option linter.unusedSimpArgs false
set_option maxRecDepth 20000
namespace Go.Proofs.YtkbhjejalkbogaaGreatDoor
open Go Go.Av

section
variable {w0 : World} {σ : Vw}

end
end Go.Proofs.YtkbhjejalkbogaaGreatDoor

/- What a trail leads to, by the reference's hand: a row of its own that holds the entries and the looks. -/
set_option linter.unusedVariables false
set_option linter.unusedSimpArgs false
set_option maxRecDepth 20000
namespace Go.Proofs.YtkbhjejalkbogaaGreatDoor
open Go Go.Av

section
variable {w0 : World} {σ : Vw}

end
end Go.Proofs.YtkbhjejalkbogaaGreatDoor

/- 'TrailDiff' by either hand, and its law. -/
set_option linter.unusedVariables false
set_option linter.unusedSimpArgs false
set_option maxRecDepth 20000
namespace Go.Proofs.YtkbhjejalkbogaaGreatDoor
open Go Go.Av

section
variable {w0 : World} {σ : Vw}

end
end Go.Proofs.YtkbhjejalkbogaaGreatDoor

/- What is marked stays marked; a trail that covers leads to all that differs: pure. -/
set_option linter.unusedVariables false
set_option linter.unusedSimpArgs false
set_option maxRecDepth 20000
namespace Go.Proofs.YtkbhjejalkbogaaGreatDoor
open Go Go.Av

/-! ### Marks are not forgotten -/
/-! ### A trail that covers leads to all that differs -/
end Go.Proofs.YtkbhjejalkbogaaGreatDoor

/- Two trees and a trail that are drawn; a trail and a mark that are drawn; trails compared. -/
set_option linter.unusedVariables false
set_option linter.unusedSimpArgs false
set_option maxRecDepth 20000
namespace Go.Proofs.YtkbhjejalkbogaaGreatDoor
open Go Go.Av Go.RowKit

section
variable {w0 : World} {σ : Vw}

end
end Go.Proofs.YtkbhjejalkbogaaGreatDoor

/- Entries compared; where there is no difference; the law 'DiffNone', of the functions alone. -/
set_option linter.unusedVariables false
set_option linter.unusedSimpArgs false
set_option maxRecDepth 20000
namespace Go.Proofs.YtkbhjejalkbogaaGreatDoor
open Go Go.Av Go.RowKit

section
variable {w0 : World} {σ : Vw}

theorem wtEntries {v v' : Value} {xs ys : List En} (h : RSl 5 REn (Av.get w0 σ) v xs) (h' : RSl 5 REn (Av.get w0 σ) v' ys) {R : Value → Vw → Prop} (hR : R (.bool (decide (xs = ys))) σ) : AC Tryz.prog w0 n_laws_wtEntries [v, v'] σ R := by
  refine ac_laws_wtEntries ?_
  unfold vc_laws_wtEntries
  have hl : xs.length ≤ 9223372036854775807 := h.le
  rw [h.len, h'.len, pBin_ne, pIf_d]
  refine ⟨fun hne => ?_, fun heq => ?_⟩
  · have : xs ≠ ys := fun e => hne (by rw [e])
    simpa [this] using hR
  have hlen : xs.length = ys.length := by omega
  refine loop_rule (m := xs.length) (fun m l s => ∃ j, s = σ ∧ m + j = xs.length ∧ xs.take j = ys.take j ∧ l = [v, v', .bool false, .int .i64 (j : Nat)]) ?_ ⟨0, rfl, by omega, by simp, rfl⟩
  rintro m l s L ⟨j, rfl, hm, ht, rfl⟩ hL
  simp only [vget, List.getD_cons_zero, List.getD_cons_succ]
  rw [h.len, pBin_lt, pIf_d]
  refine ⟨fun hj => ?_, fun hj => ?_⟩
  · have hx := List.getElem?_eq_getElem (show j < xs.length by omega)
    have hy := List.getElem?_eq_getElem (show j < ys.length by omega)
    generalize hxe : xs[j]'(by omega) = x at hx
    generalize hye : ys[j]'(by omega) = y at hy
    have no : x ≠ y → R (.bool false) s := fun hne => by
      have : xs ≠ ys := fun e => hne (by rw [← hxe, ← hye]; simp [e])
      simpa [this] using hR
    refine RSl.atf h hx 0 (by omega) fun es g r q => ?_
    obtain ⟨u, rfl, ru, _⟩ := r
    simp only [List.getElem?_cons_zero, Option.some.injEq] at q
    refine RSl.atf h' hy 0 (by omega) fun es' g' r' q' => ?_
    obtain ⟨w, rfl, rw', _⟩ := r'
    simp only [List.getElem?_cons_zero, Option.some.injEq] at q'
    rw [← q, ← q']
    refine wtTexts ru rw' ?_
    rw [pUn_not, pIf_b]
    refine ⟨fun hne => no fun e => (by subst e; simp at hne), fun e0 => ?_⟩
    have e0 : x.1 = y.1 := by simpa using e0
    refine RSl.atf h hx 1 (by omega) fun es g r q => ?_
    obtain ⟨u, rfl, _⟩ := r
    simp only [List.getElem?_cons_zero, List.getElem?_cons_succ, Option.some.injEq] at q
    refine RSl.atf h' hy 1 (by omega) fun es' g' r' q' => ?_
    obtain ⟨w, rfl, _⟩ := r'
    simp only [List.getElem?_cons_zero, List.getElem?_cons_succ, Option.some.injEq] at q'
    rw [← q, ← q', pBin_ne, pIf_d]
    refine ⟨fun hne => no fun e => hne (by rw [e]), fun e1 => ?_⟩
    have e1 := Decidable.not_not.1 e1
    refine RSl.atf h hx 2 (by omega) fun es g r q => ?_
    obtain ⟨u, rfl, _⟩ := r
    simp only [List.getElem?_cons_zero, List.getElem?_cons_succ, Option.some.injEq] at q
    refine RSl.atf h' hy 2 (by omega) fun es' g' r' q' => ?_
    obtain ⟨w, rfl, _⟩ := r'
    simp only [List.getElem?_cons_zero, List.getElem?_cons_succ, Option.some.injEq] at q'
    have eb : ∀ (p q : Bool) (K : Value → Prop), pBin Tryz.prog 4 .neq (.bool p) (.bool q) K ↔ K (.bool !(p == q)) := fun p q K => pBin_b (by kernel_rfl) rfl
    rw [← q, ← q', eb, pIf_b]
    refine ⟨fun hne => no fun e => (by subst e; simp at hne), fun e2 => ?_⟩
    have e2 : x.2.2.1 = y.2.2.1 := by simpa using e2
    refine RSl.atf h hx 3 (by omega) fun es g r q => ?_
    obtain ⟨u, rfl, _⟩ := r
    simp only [List.getElem?_cons_zero, List.getElem?_cons_succ, Option.some.injEq] at q
    refine RSl.atf h' hy 3 (by omega) fun es' g' r' q' => ?_
    obtain ⟨w, rfl, _⟩ := r'
    simp only [List.getElem?_cons_zero, List.getElem?_cons_succ, Option.some.injEq] at q'
    rw [← q, ← q', pBin_ne, pIf_d]
    refine ⟨fun hne => no fun e => hne (by rw [e]), fun e3 => ?_⟩
    have e3 := Decidable.not_not.1 e3
    refine RSl.atf h hx 4 (by omega) fun es g r q => ?_
    obtain ⟨u, rfl, _⟩ := r
    simp only [List.getElem?_cons_zero, List.getElem?_cons_succ, Option.some.injEq] at q
    refine RSl.atf h' hy 4 (by omega) fun es' g' r' q' => ?_
    obtain ⟨w, rfl, _⟩ := r'
    simp only [List.getElem?_cons_zero, List.getElem?_cons_succ, Option.some.injEq] at q'
    rw [← q, ← q', pBin_sne, pIf_d]
    refine ⟨fun hne => no fun e => hne (by rw [e]), fun e4 => ?_⟩
    have e4 := Decidable.not_not.1 e4
    rw [pBin_add (by omega)]
    refine hL _ _ (m - 1) (by omega) ⟨j + 1, rfl, by omega, ?_, rfl⟩
    have exy : x = y := by
      obtain ⟨a1, a2, a3, a4, a5⟩ := x
      obtain ⟨b1, b2, b3, b4, b5⟩ := y
      simp only at e0 e1 e2 e3 e4
      rw [e0, e1, e2, e3, e4]
    rw [List.take_add_one, List.take_add_one, hx, hy, ht, exy]
  · have hj' : j = xs.length := by omega
    subst hj'
    rw [List.take_length, hlen, List.take_length] at ht
    subst ht
    simpa using hR

end
end Go.Proofs.YtkbhjejalkbogaaGreatDoor

/- strings.Split, Cut, TrimPrefix at one byte, by the shelf; cuts by hand. -/
set_option linter.unusedVariables false
set_option linter.unusedSimpArgs false
namespace Go.Proofs.YtkbhjejalkbogaaGreatDoor
open Go Go.Av Go.RowKit

/-! ### The library's cuts are these cuts -/
theorem ib_none {c : UInt8} : ∀ {l : List UInt8}, c ∉ l → Lib.indexByte l c = -1
  | [], _ => rfl
  | b :: r, h => by
    have h1 : ¬ b = c := fun e => h (e ▸ List.mem_cons_self)
    have h2 : c ∉ r := fun e => h (List.mem_cons_of_mem _ e)
    rw [Lib.indexByte, if_neg (by simpa using h1), ib_none h2]; rfl
theorem ib_at {c : UInt8} : ∀ {a r : List UInt8}, c ∉ a → Lib.indexByte (a ++ c :: r) c = (a.length : Int)
  | [], r, _ => by simp [Lib.indexByte]
  | b :: a, r, h => by
    have h1 : ¬ b = c := fun e => h (e ▸ List.mem_cons_self)
    have h2 : c ∉ a := fun e => h (List.mem_cons_of_mem _ e)
    rw [List.cons_append, Lib.indexByte, if_neg (by simpa using h1), ib_at h2, if_neg (by simp)]
    simp
theorem split_first {c : UInt8} : ∀ {l : List UInt8}, c ∈ l → ∃ a r, l = a ++ c :: r ∧ c ∉ a
  | b :: r, h => by
    by_cases e : b = c
    · exact ⟨[], r, by rw [e]; rfl, by simp⟩
    · have : c ∈ r := by
        rcases List.mem_cons.1 h with h | h
        · exact absurd h.symm e
        · exact h
      obtain ⟨a, t, h1, h2⟩ := split_first this
      exact ⟨b :: a, t, by rw [h1]; rfl, fun h => by rcases List.mem_cons.1 h with h | h; exact e h.symm; exact h2 h⟩
theorem count_at {c : UInt8} {a r : List UInt8} (h : c ∉ a) : (a ++ c :: r).count c = r.count c + 1 := by
  rw [List.count_append, List.count_eq_zero.2 h, List.count_cons_self]; omega
theorem countFrom_one {c : UInt8} : ∀ (fuel : Nat) (l : List UInt8), l.length < fuel → Lib.countFrom [c] fuel l = l.count c
  | 0, l, h => by omega
  | fuel + 1, l, h => by
    unfold Lib.countFrom
    by_cases hc : c ∈ l
    · obtain ⟨a, r, rfl, ha⟩ := split_first hc
      rw [Lib.index_one, ib_at ha, if_neg (by simp)]
      have e : (a ++ c :: r).drop ((a.length : Int).toNat + [c].length) = r := by simp [List.drop_append]
      rw [e, count_at ha, countFrom_one fuel r (by simp at h; omega)]; omega
    · rw [Lib.index_one, ib_none hc, if_pos (by simp), List.count_eq_zero.2 hc]
theorem splitK_one {c : UInt8} : ∀ (k : Nat) (l : List UInt8), l.count c ≤ k → Lib.splitK [c] 0 k l = cutL c l
  | 0, l, h => by
    have : c ∉ l := List.count_eq_zero.1 (by omega)
    rw [cutL_none this]; rfl
  | k + 1, l, h => by
    unfold Lib.splitK
    by_cases hc : c ∈ l
    · obtain ⟨a, r, rfl, ha⟩ := split_first hc
      rw [Lib.index_one, ib_at ha, if_neg (by simp), cutL_at ha]
      have e : (a ++ c :: r).drop ((a.length : Int).toNat + [c].length) = r := by simp [List.drop_append]
      have e2 : (a ++ c :: r).take ((a.length : Int).toNat + 0) = a := by simp
      rw [count_at ha] at h
      rw [e, e2, splitK_one k r (by omega)]
    · rw [Lib.index_one, ib_none hc, if_pos (by simp), cutL_none hc]
theorem cutL_length {c : UInt8} (l : List UInt8) : (cutL c l).length = l.count c + 1 := by
  suffices h : ∀ (n : Nat) (l : List UInt8), l.length ≤ n → (cutL c l).length = l.count c + 1 from h l.length l (Nat.le_refl _)
  intro n
  induction n with
  | zero => intro l h; have : l = [] := List.eq_nil_of_length_eq_zero (by omega); subst this; rfl
  | succ n ih =>
    intro l h
    by_cases hc : c ∈ l
    · obtain ⟨a, r, rfl, ha⟩ := split_first hc
      rw [cutL_at ha, count_at ha, List.length_cons, ih r (by simp at h; omega)]
    · rw [cutL_none hc, List.count_eq_zero.2 hc]; rfl
theorem splitB_cutS (s : ByteArray) (c : UInt8) : Lib.splitB ⟨#[c]⟩ 0 (Lib.countB s ⟨#[c]⟩) s = cutS c s := by
  have h := Lib.splitB_data ⟨#[c]⟩ 0 (Lib.countB s ⟨#[c]⟩) s
  have e : Lib.countB s ⟨#[c]⟩ = (bl s).count c := countFrom_one (c := c) _ _ (by show s.data.toList.length < s.data.toList.length + 1; omega)
  have h2 : (Lib.splitB ⟨#[c]⟩ 0 (Lib.countB s ⟨#[c]⟩) s).map bl = cutL c (bl s) := by
    rw [← splitK_one (c := c) (Lib.countB s ⟨#[c]⟩) (bl s) (by omega)]; exact h
  rw [cutS, ← h2, List.map_map]
  have : (ofL ∘ bl) = id := by funext x; exact ofL_bl x
  rw [this, List.map_id]
theorem countB_len (s : ByteArray) (c : UInt8) : Lib.countB s ⟨#[c]⟩ + 1 = (cutS c s).length := by
  have e : Lib.countB s ⟨#[c]⟩ = (bl s).count c := countFrom_one (c := c) _ _ (by show s.data.toList.length < s.data.toList.length + 1; omega)
  rw [cutS, List.length_map, cutL_length, e]
theorem cut_at {c : UInt8} {a r : List UInt8} (h : c ∉ a) : Lib.cut (a ++ c :: r) [c] = (a, r, true) := by
  unfold Lib.cut
  rw [Lib.index_one, ib_at h, if_pos (by omega)]
  simp [List.drop_append]
def trimB (t : ByteArray) : ByteArray := if 1 ≤ t.size ∧ t.extract 0 1 = ⟨#[47]⟩ then t.extract 1 t.size else t
theorem trimB_size (t : ByteArray) : (trimB t).size ≤ t.size := by
  unfold trimB; split
  · rw [ByteArray.size_extract]; omega
  · omega

section
variable {w0 : World} {σ : Vw}

/-- The variable that the library reads holds a number. -/
def MaxL (w0 : World) : Prop := ∃ m, ∀ w, Below w0.heap.size w0 w → w.cell? ⟨0, 0, none⟩ = some (.int .i64 m)

theorem strings_Split (mx : MaxL w0) {s : ByteArray} {c : UInt8} (hs : s.size ≤ 1000000000) {R : Value → Vw → Prop} (hR : ∀ v F σ', Keeps σ σ' → OStrs w0 σ' F v (cutS c s) → (∀ b, b ∈ F → σ b = none) → R v σ') : AC Tryz.prog w0 n_strings_Split [.string s, .string ⟨#[c]⟩] σ R := by
  refine ⟨is_strings_Split, fun w hw => ?_⟩
  obtain ⟨m, hm⟩ := mx
  refine (Tryz.strings_Split s ⟨#[c]⟩ m w (by omega) (hm w hw.bel) (Nat.le_refl 1)).mono ?_
  rintro e w' ⟨rfl, rfl⟩
  rw [splitB_cutS, countB_len]
  have hn : σ w.heap.size = none := by
    cases h : σ w.heap.size with
    | none => rfl
    | some r => exact absurd (hw.lt h) (Nat.lt_irrefl _)
  have hcl := cutS_len c s
  refine ⟨_, σ.put w.heap.size ⟨t_string, (cutS c s).map .string, (cutS c s).length, (0, 0)⟩, rfl, hR _ [w.heap.size] _ (Keeps.put hn) (own_strs hw.bel.size put_at rfl ⟨Nat.le_refl _, by omega⟩ fun x hx => ?_) (fun i hi => by rw [List.mem_singleton.1 hi]; exact hn), ?_⟩
  · have := cutS_mem hx; omega
  · exact Aft.row hw _ ⟨t_string, (cutS c s).map .string, (cutS c s).length, (0, 0)⟩ (by simp) (by simp) rfl

theorem strings_TrimPrefix {t : ByteArray} (ht : t.size ≤ 1000000000) {R : Value → Vw → Prop} (hR : R (.string (trimB t)) σ) : AC Tryz.prog w0 n_strings_TrimPrefix [.string t, .string ⟨#[47]⟩] σ R := by
  refine ac_strings_TrimPrefix ?_
  unfold vc_strings_TrimPrefix
  refine ac_internal_stringslite_TrimPrefix ?_
  unfold vc_internal_stringslite_TrimPrefix
  refine ac_internal_stringslite_HasPrefix ?_
  unfold vc_internal_stringslite_HasPrefix
  have e1 : (⟨#[47]⟩ : ByteArray).size = 1 := rfl
  rw [pLenS_s, pLenS_s, pBin_ge, pIf_d, e1]
  refine ⟨fun h => ?_, fun h => ?_⟩
  · rw [pLenS_s, e1]
    refine pSliceStr_s (l := 0) (h := 1) rfl rfl (by omega) ?_
    rw [pBin_seq]
    show pIf (.bool (decide (t.extract 0 1 = ⟨#[47]⟩))) _ _
    rw [pIf_d]
    refine ⟨fun hp => ?_, fun hp => ?_⟩
    · rw [pLenS_s, e1]
      refine pSliceStr_s (l := 1) (h := t.size) rfl rfl (by omega) ?_
      rw [trimB, if_pos ⟨by omega, hp⟩] at hR
      exact hR
    · rw [trimB, if_neg (fun h => hp h.2)] at hR; exact hR
  · show pIf (.bool false) _ _
    rw [pIf_b]
    refine ⟨nofun, fun _ => ?_⟩
    rw [trimB, if_neg (fun h' => by omega)] at hR; exact hR

/-! ### A cut by hand -/
/-- The pieces that are whole ahead of a place, and where the next begins. -/
theorem spec_l1Cut {s : ByteArray} {c : UInt8} (hs : s.size ≤ 1000000000) {R : Value → Vw → Prop} (hR : ∀ v F σ', Keeps σ σ' → OStrs w0 σ' F v (cutS c s) → (∀ b, b ∈ F → σ b = none) → R v σ') : AC Tryz.prog w0 n_spec_l1Cut [.string s, .int .u8 (c.toNat : Int)] σ R := by
  refine ac_spec_l1Cut ?_
  unfold vc_spec_l1Cut
  intro b h1 h2
  have kb : Keeps σ (σ.put b ⟨t_string, [], 0, (0, 0)⟩) := Keeps.put h2
  have hb0 : ∀ i, i ∈ [b] → σ i = none := fun i hi => by rw [List.mem_singleton.1 hi]; exact h2
  refine loop_rule (m := s.size) (fun m l st => ∃ (i f : Nat) (v : Value) (F : List Nat) (out : List ByteArray), m + i = s.size ∧ f ≤ i ∧ Keeps σ st ∧ (∀ j, j ∈ F → σ j = none) ∧ OAcc w0 t_string 1 OStr st F v out ∧ out.length ≤ i ∧ c ∉ ((bl s).take i).drop f ∧ cutL c (bl s) = out.map bl ++ cutL c ((bl s).drop f) ∧ l = [.string s, .int .u8 (c.toNat : Int), v, .int .i64 (f : Nat), .int .i64 (i : Nat)]) ?_
    ⟨0, 0, _, [b], [], by omega, Nat.le_refl _, kb, hb0, OAcc.new h1, Nat.le_refl _, by simp, by simp, rfl⟩
  rintro m l st L ⟨i, f, v, F, out, hm, hfi, ks, hF, ho, hol, hnc, hcut, rfl⟩ hL
  simp only [vget, List.getD_cons_zero, List.getD_cons_succ]
  have hlen : (bl s).length = s.size := size_bl s
  rw [pLenS_s, pBin_lt, pIf_d]
  refine ⟨fun hi => ?_, fun hi => ?_⟩
  · have hi' : i < s.size := by omega
    have hget := bl_get s i hi'
    generalize hb : s[i]'hi' = x at hget
    refine pIndexStr_s hi' ?_
    rw [hb, pBin_eq, pIf_d]
    refine ⟨fun e => ?_, fun e => ?_⟩
    · have e : x = c := UInt8.toNat_inj.1 (by omega)
      subst e
      refine pSliceStr_s (l := (f : Nat)) (h := (i : Nat)) rfl rfl (by omega) ?_
      rw [Int.toNat_natCast, Int.toNat_natCast, pVal1 rfl]
      refine ho.one (ok_str w0) (f := []) (y := s.extract f i) ⟨rfl, rfl, by rw [ByteArray.size_extract]; omega⟩ (by simp) (by omega) (by omega) fun v2 F2 s2 k2 o2 f2 => ?_
      rw [pBin_add (by omega), pBin_add (by omega)]
      have hF2 : ∀ j, j ∈ F2 → σ j = none := fresh_in ks hF fun j hj => by
        rcases f2 j hj with h | h | h
        · exact .inl h
        · cases h
        · exact .inr h
      refine hL _ _ (m - 1) (by omega) ⟨i + 1, i + 1, v2, F2, out ++ [s.extract f i], by omega, Nat.le_refl _, k2.old ks hF, hF2, o2, by simp; omega, by simp, ?_, by simp⟩
      have hsplit : (bl s).drop f = ((bl s).take i).drop f ++ x :: (bl s).drop (i + 1) := by
        have h3 : bl s = (bl s).take i ++ x :: (bl s).drop (i + 1) := by
          have hl : i < (bl s).length := by omega
          have hx : (bl s)[i]'hl = x := (List.getElem?_eq_some_iff.1 hget).2
          rw [← hx, ← List.drop_eq_getElem_cons hl, List.take_append_drop]
        conv => lhs; rw [h3]
        rw [List.drop_append_of_le_length (by rw [List.length_take]; omega)]
      rw [hcut, hsplit, cutL_at hnc, List.map_append, List.append_assoc]
      congr 1
      simp only [List.map_cons, List.map_nil, List.singleton_append, List.cons.injEq, and_true]
      rw [bl_extract, List.drop_take]
    · rw [pBin_add (by omega)]
      refine hL _ _ (m - 1) (by omega) ⟨i + 1, f, v, F, out, by omega, by omega, ks, hF, ho, by omega, ?_, hcut, by simp⟩
      rw [List.take_add_one, hget, Option.toList_some, List.drop_append_of_le_length (by rw [List.length_take]; omega)]
      intro h
      rcases List.mem_append.1 h with h | h
      · exact hnc h
      · rw [List.mem_singleton] at h
        subst h; exact e rfl
  · have e : i = s.size := by omega
    subst e
    show pSliceStr (.string s) (some (.int .i64 (f : Nat))) none _
    refine pSliceStr_s (l := (f : Nat)) (h := s.size) rfl rfl (by omega) ?_
    rw [Int.toNat_natCast, Int.toNat_natCast, pVal1 rfl]
    refine ho.one (ok_str w0) (f := []) (y := s.extract f s.size) ⟨rfl, rfl, by rw [ByteArray.size_extract]; omega⟩ (by simp) (by omega) (by omega) fun v2 F2 s2 k2 o2 f2 => ?_
    have hF2 : ∀ j, j ∈ F2 → σ j = none := fresh_in ks hF fun j hj => by
      rcases f2 j hj with h | h | h
      · exact .inl h
      · cases h
      · exact .inr h
    have hfin : out ++ [s.extract f s.size] = cutS c s := by
      rw [List.take_of_length_le (by omega)] at hnc
      rw [cutL_none hnc] at hcut
      have e2 : bl (s.extract f s.size) = (bl s).drop f := by
        rw [bl_extract, List.take_of_length_le (by rw [List.length_drop]; omega)]
      rw [cutS, hcut, ← e2, List.map_append, List.map_map]
      have : (ofL ∘ bl) = id := by funext x; exact ofL_bl x
      rw [this, List.map_id, List.map_cons, List.map_nil, ofL_bl]
    rw [hfin] at o2
    exact hR v2 F2 s2 (k2.old ks hF) o2.osl hF2

/-- The list without its first text. -/
theorem strs_tail {F : List Nat} {v : Value} {xs : List ByteArray} (h : OStrs w0 σ F v xs) (hx : 1 ≤ xs.length) {K : Value → Prop} (hK : ∀ v' F', (∀ i, i ∈ F' → i ∈ F) → OStrs w0 σ F' v' (xs.drop 1) → K v') : pSlice 1 v (some (.int .i64 1)) none K := by
  obtain ⟨h1, h2, ⟨rfl, rfl, _⟩ | ⟨b, off, cap, r, pre, post, css, Fs, rfl, gc, g2, g3, g4, g5, g6, g7, g8, g9⟩⟩ := h
  · simp at hx
  refine ⟨_, xs.length, cap, 1, xs.length, rfl, rfl, rfl, by omega, by omega, by omega, ?_⟩
  by_cases hl : xs.length = 1
  · have e : xs.drop 1 = [] := List.eq_nil_of_length_eq_zero (by rw [List.length_drop]; omega)
    have : ∀ A : Option Addr, ∀ k : Nat, k ≤ 9223372036854775807 → (A = none ∧ k = 0) ∨ (∃ o, A = some ⟨b, o, none⟩ ∧ o ≤ pre.length + 1) → K (.slice A 0 k) := by
      intro A k hk hA
      rcases hA with ⟨rfl, rfl⟩ | ⟨o, rfl, ho⟩
      · exact hK _ [] (by simp) (by rw [e]; exact ⟨by simp, by simp, .inl ⟨rfl, rfl, rfl⟩⟩)
      · refine hK _ [b] (fun i hi => by rw [g8]; simp at hi; simp [hi]) ?_
        rw [e]
        have hcl : css.length = 1 := by omega
        obtain ⟨c0, rfl⟩ : ∃ c0, css = [c0] := by
          match css, hcl with
          | [c0], _ => exact ⟨c0, rfl⟩
        have hc1 : c0.length = 1 := by
          obtain ⟨x0, hx0⟩ : ∃ x0, xs[0]? = some x0 := ⟨_, List.getElem?_eq_getElem (by omega)⟩
          obtain ⟨f0, hf0⟩ : ∃ f0, Fs[0]? = some f0 := ⟨_, List.getElem?_eq_getElem (by omega)⟩
          obtain ⟨_, rfl, _⟩ := g9 0 c0 x0 f0 rfl hx0 hf0
          rfl
        refine ⟨by simp, by simp, .inr ⟨b, o, k, r, (r.cells).take o, (r.cells).drop o, [], [], rfl, ⟨by simp, hk⟩, g2, g3, by simp, ?_, rfl, rfl, rfl, fun j c x f e1 => by simp at e1⟩⟩
        rw [List.length_take, g4]
        simp only [List.flatten_cons, List.flatten_nil, List.append_nil, List.length_append, hc1]
        omega
    have hz : ((xs.length : Int).toNat - (1 : Int).toNat) = 0 := by omega
    rw [hz]
    split
    · exact this _ _ (by omega) (.inr ⟨off, rfl, by omega⟩)
    · refine this _ _ (by omega) (.inr ⟨off + 1, ?_, by omega⟩)
      show some (Addr.add ⟨b, off, none⟩ ((1 : Int).toNat * 1)) = _
      rw [addr_add]; rfl
  · have hcap : ¬ cap = (1 : Int).toNat := by have : (1 : Int).toNat = 1 := rfl; omega
    rw [if_neg hcap]
    cases xs with
    | nil => simp at hx
    | cons x0 xs =>
    cases css with
    | nil => simp at g6
    | cons c0 css =>
    cases Fs with
    | nil => simp at g7
    | cons f0 Fs =>
      simp only [List.length_cons] at g6 g7 hl gc h1
      obtain ⟨hf0, rfl, _⟩ := g9 0 c0 x0 f0 rfl rfl rfl
      subst hf0
      refine hK _ (b :: Fs.flatten) (fun i hi => by rw [g8]; simpa using hi) ?_
      have e : Option.map (fun x => x.add ((1 : Int).toNat * 1)) (some (Addr.mk b off none)) = some ⟨b, off + 1, none⟩ := by
        show some (Addr.add ⟨b, off, none⟩ ((1 : Int).toNat * 1)) = _
        rw [addr_add]; rfl
      rw [e]
      have hlen : (((x0 :: xs).length : Int).toNat - (1 : Int).toNat) = xs.length := by simp
      rw [hlen, List.drop_one, List.tail_cons]
      refine ⟨by omega, by rw [g8] at h2; simpa using h2, .inr ⟨b, off + 1, cap - 1, r, pre ++ [.string x0], post, css, Fs, rfl, by omega, g2, g3, by rw [g4]; simp, by simp [g5], by omega, by omega, rfl, fun j c x f e1 e2 e3 => g9 (j + 1) c x f (by simpa using e1) (by simpa using e2) (by simpa using e3)⟩⟩
end
end Go.Proofs.YtkbhjejalkbogaaGreatDoor

/- Trails read from texts: two ways to read, and that they agree. -/
set_option linter.unusedVariables false
set_option linter.unusedSimpArgs false
namespace Go.Proofs.YtkbhjejalkbogaaGreatDoor
open Go Go.Av Go.RowKit

def subT : ByteArray := ⟨#[115, 117, 98]⟩
def atTx : ByteArray := ⟨#[97, 116]⟩
def slashT : ByteArray := ⟨#[47]⟩
def nilT : ByteArray := ⟨#[]⟩
/-- A line, as the program reads it. -/
def pathI (t : ByteArray) : List ByteArray := if trimB t = nilT then [] else cutS 47 (trimB t)
def mI (l : ByteArray) : Mk := (pathI (ofL (Lib.cut (bl l) [32]).2.1), decide (ofL (Lib.cut (bl l) [32]).1 = subT))
def parI (text : ByteArray) : List Mk := ((cutS 10 text).take ((cutS 10 text).length - 1)).map mI
/-- .. and as the reference does. -/
def mS (l : ByteArray) : Option Mk :=
  match cutS 32 l with
  | [a, b] => if (a ≠ subT ∧ a ≠ atTx) ∨ b = nilT ∨ (bl b).head? ≠ some 47 then none
    else some (if b = slashT then [] else (cutS 47 b).drop 1, decide (a = subT))
  | _ => none
def optAll {α β : Type} (f : α → Option β) : List α → Option (List β)
  | [] => some []
  | a :: r => (f a).bind fun b => (optAll f r).map fun bs => b :: bs
def parS (text : ByteArray) : Option (List Mk) := optAll mS ((cutS 10 text).take (min 7 ((cutS 10 text).length - 1)))
theorem optAll_map {α β : Type} {f : α → Option β} {g : β → α} : ∀ {bs : List β}, (∀ b, b ∈ bs → f (g b) = some b) → optAll f (bs.map g) = some bs
  | [], _ => rfl
  | b :: bs, h => by
    have ih := optAll_map (f := f) (g := g) (bs := bs) fun c hc => h c (List.mem_cons_of_mem _ hc)
    simp [optAll, h b (by simp), ih]

/-! ### Good marks -/
def okNm (p : ByteArray) : Prop := (∀ b, b ∈ bl p → okB b.toNat) ∧ 1 ≤ p.size ∧ p.size ≤ 5
theorem nameOk_okNm {p : ByteArray} (h : nameOk p = true) : okNm p := by
  simp only [nameOk, Bool.and_eq_true, decide_eq_true_eq, inB] at h
  refine ⟨fun b hb => ?_, by omega, by omega⟩
  obtain ⟨j, hj⟩ := List.getElem?_of_mem hb
  have hlt : j < (bl p).length := (List.getElem?_eq_some_iff.1 hj).1
  rw [size_bl] at hlt
  rw [bl_get p j hlt] at hj
  cases hj
  exact h.1 j hlt
theorem allNames_ok : ∀ {ps : List ByteArray}, allNames ps = true → ∀ p, p ∈ ps → okNm p
  | x :: r, h, p, hp => by
    simp only [allNames, Bool.and_eq_true] at h
    rcases List.mem_cons.1 hp with rfl | hp
    · exact nameOk_okNm h.1
    · exact allNames_ok h.2 p hp
def okMk (m : Mk) : Prop := (∀ p, p ∈ m.1 → okNm p) ∧ m.1.length ≤ 4
theorem trail_marks {ms : List Mk} (h : trailOk ms = true) : (∀ m, m ∈ ms → okMk m) ∧ ms.length ≤ 6 := by
  simp only [trailOk, Bool.and_eq_true, decide_eq_true_eq] at h
  refine ⟨fun m hm => ?_, by omega⟩
  obtain ⟨j, hj⟩ := List.getElem?_of_mem hm
  have h1 := h.1 j m hj
  simp only [goodAt, Bool.and_eq_true] at h1
  have h2 := h1.1
  unfold markOkB at h2
  split at h2
  · rename_i e
    rw [okMk, e]; simp
  · simp only [Bool.and_eq_true, inB, decide_eq_true_eq] at h2
    exact ⟨allNames_ok h2.1, by omega⟩
theorem okB_no {b : UInt8} {c : UInt8} (h : okB b.toNat) (hc : c = 47 ∨ c = 32 ∨ c = 10) : b ≠ c := by
  rintro rfl
  unfold okB at h
  rcases hc with rfl | rfl | rfl <;> simp at h
theorem nm_no {p : ByteArray} (h : okNm p) {c : UInt8} (hc : c = 47 ∨ c = 32 ∨ c = 10) : c ∉ bl p := fun hm => okB_no (h.1 c hm) hc rfl
theorem sh_no : ∀ {ps : List ByteArray}, (∀ p, p ∈ ps → okNm p) → ∀ {c : UInt8}, c = 32 ∨ c = 10 → c ∉ bl (shN ps)
  | [], _, c, hc => by simp [shN]
  | p :: r, h, c, hc => by
    rw [shN, bl_append, bl_append]
    intro hm
    rcases List.mem_append.1 hm with hm | hm
    · rcases List.mem_append.1 hm with hm | hm
      · have : c = 47 := by simpa using hm
        rcases hc with rfl | rfl <;> simp at this
      · exact nm_no (h p (by simp)) (by rcases hc with h | h; exact .inr (.inl h); exact .inr (.inr h)) hm
    · exact sh_no (fun q hq => h q (by simp [hq])) hc hm
theorem path_no {m : Mk} (h : okMk m) {c : UInt8} (hc : c = 32 ∨ c = 10) : c ∉ bl (pathT m.1) := by
  unfold pathT
  split
  · rcases hc with rfl | rfl <;> simp
  · exact sh_no h.1 hc
theorem cut_sh : ∀ {r : List ByteArray} {p : ByteArray}, (∀ q, q ∈ p :: r → okNm q) → cutL 47 (bl p ++ bl (shN r)) = (p :: r).map bl
  | [], p, h => by
    simp only [shN, bl_empty, List.append_nil, List.map_cons, List.map_nil]
    exact cutL_none (nm_no (h p (by simp)) (.inl rfl))
  | q :: r, p, h => by
    have e : bl (shN (q :: r)) = 47 :: (bl q ++ bl (shN r)) := by rw [shN, bl_append, bl_append]; rfl
    rw [e, cutL_at (nm_no (h p (by simp)) (.inl rfl)), cut_sh fun s hs => h s (by simp at hs; simp [hs])]
    rfl
theorem map_ofL_bl (ps : List ByteArray) : (ps.map bl).map ofL = ps := by
  rw [List.map_map]
  have : (ofL ∘ bl) = id := by funext x; exact ofL_bl x
  rw [this, List.map_id]
theorem path_back {m : Mk} (h : okMk m) : pathI (pathT m.1) = m.1 ∧ (if pathT m.1 = slashT then [] else (cutS 47 (pathT m.1)).drop 1) = m.1 ∧ pathT m.1 ≠ nilT ∧ (bl (pathT m.1)).head? = some 47 := by
  obtain ⟨ps, d⟩ := m
  have h := h.1
  simp only at h ⊢
  cases ps with
  | nil =>
    refine ⟨?_, ?_, ?_, rfl⟩
    · have : trimB slashT = nilT := by
        rw [trimB, if_pos ⟨by decide, by apply bl_inj; rw [bl_extract]; rfl⟩]
        apply bl_inj; rw [bl_extract]; rfl
      show pathI slashT = []
      rw [pathI, if_pos this]
    · rw [if_pos (show pathT [] = slashT from rfl)]
    · intro e
      have := congrArg ByteArray.size e
      exact absurd this (by decide)
  | cons p r =>
    have hp : pathT (p :: r) = shN (p :: r) := by rw [pathT, if_neg (by simp)]
    rw [hp]
    have e : bl (shN (p :: r)) = 47 :: (bl p ++ bl (shN r)) := by rw [shN, bl_append, bl_append]; rfl
    have hsz := shN_size (p :: r)
    have hp1 := (h p (by simp)).2.1
    have hs2 : 2 ≤ (shN (p :: r)).size := by
      rw [hsz, List.length_cons, sumS]; omega
    have hcut := cut_sh h
    have htr : bl (trimB (shN (p :: r))) = bl p ++ bl (shN r) := by
      have h1 : (shN (p :: r)).extract 0 1 = ⟨#[47]⟩ := by
        apply bl_inj; rw [bl_extract, e]; rfl
      rw [trimB, if_pos ⟨by omega, h1⟩, bl_extract, e]
      rw [List.drop_one, List.tail_cons]
      apply List.take_of_length_le
      have := size_bl (shN (p :: r))
      rw [e, List.length_cons] at this
      omega
    refine ⟨?_, ?_, ?_, by rw [e]; rfl⟩
    · have hne : ¬ trimB (shN (p :: r)) = nilT := fun e2 => by
        rw [e2] at htr
        have : bl nilT = [] := rfl
        rw [this] at htr
        have h2 := congrArg List.length htr
        rw [List.length_append, size_bl] at h2
        simp at h2
        have h3 : p.size = 0 := by omega
        omega
      rw [pathI, if_neg hne, cutS, htr, hcut, map_ofL_bl]
    · have hne : ¬ shN (p :: r) = slashT := fun e2 => by
        have h2 := congrArg ByteArray.size e2
        have : slashT.size = 1 := rfl
        omega
      rw [if_neg hne, cutS, e]
      have := cutL_at (c := 47) (a := []) (r := bl p ++ bl (shN r)) (by simp)
      rw [List.nil_append] at this
      rw [this, hcut, List.map_cons, List.drop_one, List.tail_cons, map_ofL_bl]
    · intro e2
      have h2 := congrArg ByteArray.size e2
      have : nilT.size = 0 := rfl
      omega

def wordL (d : Bool) : List UInt8 := if d = true then [115, 117, 98] else [97, 116]
def lineL (m : Mk) : List UInt8 := wordL m.2 ++ 32 :: bl (pathT m.1)
theorem word_no (d : Bool) : (32 : UInt8) ∉ wordL d ∧ (10 : UInt8) ∉ wordL d := by cases d <;> simp [wordL]
theorem word_sub (d : Bool) : decide (ofL (wordL d) = subT) = d := by
  cases d
  · simp only [decide_eq_false_iff_not]
    intro e
    have := congrArg ByteArray.size e
    exact absurd this (by decide)
  · simp only [decide_eq_true_eq]; rfl
theorem bl_markX (m : Mk) : bl (markX m) = lineL m ++ [10] := by
  obtain ⟨ps, d⟩ := m
  cases d
  · simp only [markX, lineL, wordL, bl_append]
    rfl
  · simp only [markX, lineL, wordL, bl_append]
    rfl
theorem mI_line {m : Mk} (h : okMk m) : mI (ofL (lineL m)) = m := by
  unfold mI
  rw [bl_ofL, lineL, cut_at (word_no m.2).1]
  simp only
  rw [ofL_bl, (path_back h).1, word_sub]
theorem mS_line {m : Mk} (h : okMk m) : mS (ofL (lineL m)) = some m := by
  obtain ⟨h1, h2, h3, h4⟩ := path_back h
  have hc : cutS 32 (ofL (lineL m)) = [ofL (wordL m.2), pathT m.1] := by
    rw [cutS, bl_ofL, lineL, cutL_at (word_no m.2).1, cutL_none (path_no h (.inl rfl))]
    simp [ofL_bl]
  unfold mS
  rw [hc]
  simp only
  rw [if_neg, h2, word_sub]
  rintro (⟨e1, e2⟩ | e | e)
  · cases hd : m.2
    · rw [hd] at e2; exact e2 rfl
    · rw [hd] at e1; exact e1 rfl
  · exact h3 e
  · exact e h4
theorem lines_of : ∀ {ms : List Mk}, (∀ m, m ∈ ms → okMk m) → cutL 10 ((ms.map fun m => lineL m ++ [10]).flatten) = ms.map lineL ++ [[]]
  | [], _ => rfl
  | m :: ms, h => by
    have hm := h m (by simp)
    have hno : (10 : UInt8) ∉ lineL m := by
      intro hh
      rcases List.mem_append.1 hh with hh | hh
      · exact (word_no m.2).2 hh
      · rcases List.mem_cons.1 hh with hh | hh
        · simp at hh
        · exact path_no hm (.inr rfl) hh
    have e : ((m :: ms).map fun m => lineL m ++ [10]).flatten = lineL m ++ 10 :: (ms.map fun m => lineL m ++ [10]).flatten := by simp
    rw [e, cutL_at hno, lines_of fun x hx => h x (by simp [hx])]
    rfl
theorem bl_marksX (ms : List Mk) : bl (marksX ms) = (ms.map fun m => lineL m ++ [10]).flatten := by
  have h : ∀ (ms : List Mk) (a : ByteArray), bl (ms.foldl (fun a m => a ++ markX m) a) = bl a ++ (ms.map fun m => lineL m ++ [10]).flatten := by
    intro ms
    induction ms with
    | nil => intro a; simp
    | cons m ms ih => intro a; rw [List.foldl_cons, ih, bl_append, bl_markX]; simp
  have := h ms ⟨#[]⟩
  rw [bl_empty, List.nil_append] at this
  exact this
theorem back {ms : List Mk} (h : trailOk ms = true) : parI (marksX ms) = ms ∧ parS (marksX ms) = some ms := by
  obtain ⟨h1, h2⟩ := trail_marks h
  have hl : cutS 10 (marksX ms) = (ms.map fun m => ofL (lineL m)) ++ [ofL []] := by
    rw [cutS, bl_marksX, lines_of h1, List.map_append, List.map_map]; rfl
  constructor
  · unfold parI
    rw [hl]
    have : ((ms.map fun m => ofL (lineL m)) ++ [ofL []]).take (((ms.map fun m => ofL (lineL m)) ++ [ofL []]).length - 1) = ms.map fun m => ofL (lineL m) := by
      rw [List.take_append_of_le_length (by simp)]
      apply List.take_of_length_le; simp
    rw [this, List.map_map]
    conv => rhs; rw [← List.map_id ms]
    exact List.map_congr_left fun m hm => mI_line (h1 m hm)
  · unfold parS
    rw [hl]
    have : ((ms.map fun m => ofL (lineL m)) ++ [ofL []]).take (min 7 (((ms.map fun m => ofL (lineL m)) ++ [ofL []]).length - 1)) = ms.map fun m => ofL (lineL m) := by
      rw [List.take_append_of_le_length (by simp; omega)]
      apply List.take_of_length_le; simp; omega
    rw [this]
    exact optAll_map fun m hm => mS_line (h1 m hm)
end Go.Proofs.YtkbhjejalkbogaaGreatDoor

/- 'TrailRead' by either hand, and the law. -/
set_option linter.unusedVariables false
set_option linter.unusedSimpArgs false
namespace Go.Proofs.YtkbhjejalkbogaaGreatDoor
open Go Go.Av Go.RowKit

theorem none_atK {σ s : Vw} (k : Keeps σ s) {i : Nat} (h : s i = none) : σ i = none := by
  cases hs : σ i with
  | none => rfl
  | some r => rw [k i r hs] at h; cases h
section
variable {w0 : World} {σ : Vw}

theorem nil_pathK : OStrs w0 σ [] (.slice none 0 0) [] := ⟨by simp, by simp, .inl ⟨rfl, rfl, rfl⟩⟩

theorem impl_linesOf (mx : MaxL w0) {text : ByteArray} (hs : text.size ≤ 1048576) {R : Value → Vw → Prop} (hR : ∀ v σ', Keeps σ σ' → RSl 1 RS (Av.get w0 σ') v ((cutS 10 text).take ((cutS 10 text).length - 1)) → R v σ') : AC Tryz.prog w0 n_impl_linesOf [.string text] σ R := by
  refine ac_impl_linesOf ?_
  unfold vc_impl_linesOf
  have hcl := cutS_len 10 text
  have hcp := cutS_pos 10 text
  refine strings_Split mx (c := 10) (by omega) fun v F s k o f => ?_
  have hr := o.rel (ok_str w0)
  rw [hr.len, pBin_sub (by omega)]
  refine hr.slice (l := 0) (u := (cutS 10 text).length - 1) rfl (by show some _ = some _; congr 1; omega) (by omega) (by omega) fun v' hv' => ?_
  rw [List.drop_zero] at hv'
  exact hR v' s k hv'

theorem impl_pathRead (mx : MaxL w0) {t : ByteArray} (hs : t.size ≤ 1048576) {R : Value → Vw → Prop} (hR : ∀ v F σ', Keeps σ σ' → OStrs w0 σ' F v (pathI t) → (∀ b, b ∈ F → σ b = none) → R v σ') : AC Tryz.prog w0 n_impl_pathRead [.string t] σ R := by
  refine ac_impl_pathRead ?_
  unfold vc_impl_pathRead
  have hts := trimB_size t
  refine strings_TrimPrefix (by omega) ?_
  show pBin Tryz.prog 9 .eql (.string (trimB t)) (.string ⟨#[]⟩) _
  rw [pBin_seq, pIf_d]
  refine ⟨fun h => ?_, fun h => ?_⟩
  · rw [pathI, if_pos (show trimB t = nilT from h)] at hR
    intro b h1 h2
    exact hR _ [b] _ (Keeps.put h2) (OAcc.new (O := OStr) h1).osl fun i hi => by rw [List.mem_singleton.1 hi]; exact h2
  · rw [pathI, if_neg (show ¬ trimB t = nilT from h)] at hR
    exact strings_Split mx (c := 47) (by omega) fun v F s k o f => hR v F s k o f

end
end Go.Proofs.YtkbhjejalkbogaaGreatDoor

/- The law TrailNone: a tree against itself; a trail's text that is spoilt. -/
set_option linter.unusedVariables false
set_option linter.unusedSimpArgs false
set_option maxRecDepth 20000
namespace Go.Proofs.YtkbhjejalkbogaaGreatDoor
open Go Go.Av Go.RowKit

section
variable {w0 : World} {σ : Vw}

/-- A text that is cut in two, with one of some texts between. -/
theorem text_cut {b p k : Nat} {t : ByteArray} {xs : List ByteArray} (h : RD w0 σ b p) (hp : p ≤ 1000000) (ht : t.size ≤ 100000) (hx : 0 < xs.length ∧ xs.length ≤ 1000) (hsz : ∀ x, x ∈ xs → x.size ≤ 1000) (hk : xs.length = k) {cells : List Value} (hc : cells = xs.map Value.string) {R : Value → Vw → Prop}
    (hR : ∀ t' s, t'.size ≤ 102000 → RD w0 s b (p + 2) → Keeps (σ.del b) (s.del b) → R (.string t') s) :
    pLenS (.string t) (fun v11 => pBin Tryz.prog 3 .add v11 (.int .i64 1) (fun v12 => AC Tryz.prog w0 n_p_spec_l1Rd_pick [ptr b, v12] σ (fun v13 s14 => pSliceStr (.string t) none (some v13) (fun v15 => pSliceStr (.string t) (some v13) none (fun v16 => pNew w0 t_string cells s14 (fun n17 s18 => AC Tryz.prog w0 n_p_spec_l1Rd_of [ptr b, .slice (some (Addr.mk n17 0 none)) k k] s18 (fun v19 s20 => pBin Tryz.prog t_string .add v15 v19 (fun v21 => pBin Tryz.prog t_string .add v21 v16 (fun v22 => R v22 s20))))))))) := by
  rw [pLenS_s, pBin_add (by omega), show ((t.size : Nat) : Int) + 1 = ((t.size + 1 : Nat) : Int) by omega]
  refine spec_pick h (by omega) (by omega) fun j s1 hj hrd1 hd1 _ => ?_
  have k1 : Keeps (σ.del b) (s1.del b) := by rw [hd1]; exact Keeps.refl _
  refine pSliceStr_s (l := 0) (h := j) rfl rfl (by omega) ?_
  refine pSliceStr_s (l := j) (h := t.size) rfl rfl (by omega) ?_
  refine of_lit (xs := xs) hrd1 (by omega) hx (fun x hx => by have := hsz x hx; omega) hk hc fun x s4 hx' hrd4 k4 => ?_
  have hxs := hsz x hx'
  have e1 : ∀ a c : Int, (t.extract a.toNat c.toNat).size ≤ t.size := fun a c => by rw [ByteArray.size_extract]; omega
  generalize e2 : t.extract (0 : Int).toNat (j : Int).toNat = y
  generalize e3 : t.extract (j : Int).toNat (t.size : Int).toNat = z
  have hy : y.size ≤ t.size := by rw [← e2]; exact e1 _ _
  have hz : z.size ≤ t.size := by rw [← e3]; exact e1 _ _
  have hyz : y.size + z.size ≤ t.size := by
    rw [← e2, ← e3, ByteArray.size_extract, ByteArray.size_extract]; omega
  rw [pBin_cat (by omega), pBin_cat (by rw [ByteArray.size_append]; omega)]
  exact hR _ s4 (by rw [ByteArray.size_append, ByteArray.size_append]; omega) hrd4 (k1.trans k4)
/-- A text with one of some texts behind it. -/
theorem text_end {b p k : Nat} {t : ByteArray} {xs : List ByteArray} (h : RD w0 σ b p) (hp : p ≤ 1000000) (ht : t.size ≤ 100000) (hx : 0 < xs.length ∧ xs.length ≤ 1000) (hsz : ∀ x, x ∈ xs → x.size ≤ 1000) (hk : xs.length = k) {cells : List Value} (hc : cells = xs.map Value.string) {R : Value → Vw → Prop}
    (hR : ∀ t' s, t'.size ≤ 102000 → RD w0 s b (p + 2) → Keeps (σ.del b) (s.del b) → R (.string t') s) :
    pNew w0 t_string cells σ (fun n17 s18 => AC Tryz.prog w0 n_p_spec_l1Rd_of [ptr b, .slice (some (Addr.mk n17 0 none)) k k] s18 (fun v19 s20 => pBin Tryz.prog t_string .add (.string t) v19 (fun v21 => R v21 s20))) := by
  refine of_lit (xs := xs) h (by omega) hx (fun x hx => by have := hsz x hx; omega) hk hc fun x s4 hx' hrd4 k4 => ?_
  have hxs := hsz x hx'
  rw [pBin_cat (by omega)]
  exact hR _ s4 (by rw [ByteArray.size_append]; omega) (hrd4.more (by omega)) k4

end
end Go.Proofs.YtkbhjejalkbogaaGreatDoor

/- strings.Builder's WriteString and copyCheck in this program: what the library's contracts ask of it. -/
namespace Go.Proofs
def Tryz.laysB_ren : Go.Shelf.Ren := ⟨fun | 165 => 156 | 240 => 72 | 241 => 181 | 276 => 134 | 277 => 204 | 166 => 37 | n => n, fun | 70 => 62 | 3 => 3 | 0 => 0 | 4 => 4 | 9 => 9 | 20 => 20 | 72 => 64 | 37 => 22 | 164 => 146 | 5 => 5 | 75 => 67 | 80 => 70 | n => n, fun | n => n⟩
theorem Tryz.laysB240 : Go.Proofs.Lays.n240 Tryz.prog Tryz.laysB_ren := {
  mixed := by kernel_rfl
  f240 := Tryz.func72.trans (congrArg some (by kernel_rfl))
  f276 := Tryz.func134.trans (congrArg some (by kernel_rfl))
  t0 := Tryz.underlying0
  a0 := Tryz.isAgg0
  z0 := Tryz.sizeOf0
  v0 := Tryz.zeroValue0
  t4 := Tryz.underlying4
  a4 := Tryz.isAgg4
  z4 := Tryz.sizeOf4
  v4 := Tryz.zeroValue4
  t9 := Tryz.underlying9
  a9 := Tryz.isAgg9
  z9 := Tryz.sizeOf9
  v9 := Tryz.zeroValue9
  t20 := Tryz.underlying20
  a20 := Tryz.isAgg20
  z20 := Tryz.sizeOf20
  v20 := Tryz.zeroValue20
  t70 := Tryz.underlying62
  a70 := Tryz.isAgg62
  z70 := Tryz.sizeOf62
  v70 := Tryz.zeroValue62
  t72 := Tryz.underlying64
  a72 := Tryz.isAgg64
  z72 := Tryz.sizeOf64
  v72 := Tryz.zeroValue64
  t164 := Tryz.underlying146
  a164 := Tryz.isAgg146
  z164 := Tryz.sizeOf146
  v164 := Tryz.zeroValue146 }
theorem Tryz.laysB166 : Go.Proofs.Lays.n166 Tryz.prog Tryz.laysB_ren := {
  mixed := by kernel_rfl
  f166 := Tryz.func37.trans (congrArg some (by kernel_rfl))
  f240 := Tryz.func72.trans (congrArg some (by kernel_rfl))
  f276 := Tryz.func134.trans (congrArg some (by kernel_rfl))
  t0 := Tryz.underlying0
  a0 := Tryz.isAgg0
  z0 := Tryz.sizeOf0
  v0 := Tryz.zeroValue0
  t3 := Tryz.underlying3
  a3 := Tryz.isAgg3
  z3 := Tryz.sizeOf3
  v3 := Tryz.zeroValue3
  t4 := Tryz.underlying4
  a4 := Tryz.isAgg4
  z4 := Tryz.sizeOf4
  v4 := Tryz.zeroValue4
  t9 := Tryz.underlying9
  a9 := Tryz.isAgg9
  z9 := Tryz.sizeOf9
  v9 := Tryz.zeroValue9
  t20 := Tryz.underlying20
  a20 := Tryz.isAgg20
  z20 := Tryz.sizeOf20
  v20 := Tryz.zeroValue20
  t37 := Tryz.underlying22
  a37 := Tryz.isAgg22
  z37 := Tryz.sizeOf22
  v37 := Tryz.zeroValue22
  t70 := Tryz.underlying62
  a70 := Tryz.isAgg62
  z70 := Tryz.sizeOf62
  v70 := Tryz.zeroValue62
  t72 := Tryz.underlying64
  a72 := Tryz.isAgg64
  z72 := Tryz.sizeOf64
  v72 := Tryz.zeroValue64
  t75 := Tryz.underlying67
  a75 := Tryz.isAgg67
  z75 := Tryz.sizeOf67
  v75 := Tryz.zeroValue67
  t164 := Tryz.underlying146
  a164 := Tryz.isAgg146
  z164 := Tryz.sizeOf146
  v164 := Tryz.zeroValue146 }
theorem Tryz.laysB_extra : Builder.Extra Tryz.prog Tryz.laysB_ren := {
  sizeBuilder := by kernel_rfl
  liesBuilder := by kernel_rfl
  t5 := Tryz.underlying5
  a5 := Tryz.isAgg5
  z5 := Tryz.sizeOf5
  v5 := Tryz.zeroValue5
  infoByte := by kernel_rfl
  cellsByte := by kernel_rfl
  sizeByte := by kernel_rfl
  neB5 := by decide }
end Go.Proofs

/- strings.Builder: a text is written, and all but the builder and its row stands as it stood. -/
set_option linter.unusedVariables false
set_option linter.unusedSimpArgs false
namespace Go.Proofs
open Go.Shelf Go.RowKit

/-- What a write leaves: every block but the builder's and its row's. -/
def Rest (b : Nat) (row : Option Nat) (w w' : World) : Prop := ∀ k, k < w.heap.size → k ≠ b → row ≠ some k → w'.heap[k]? = w.heap[k]?

/-- Where what is appended to a list of bytes lies: in its row, or in a new one. -/
theorem append_place {P : Program} (w : World) (base : Nat) (t u ty e : TypeId) (i : TypeInfo) (ht : P.underlying t = some (.slice e)) (hu : P.underlying u = some .string) (hi : P.info? e = some i) (hz : i.zero = some (.int .u8 0))
    (hsize : i.size = 1) (hby : i.bytes = 1) (v : Value) (n : Nat) (xs : List Value) (hown : w.ownsRow base e 1 v n xs) (s : ByteArray)
    (h63 : n + s.size ≤ maxLen) (hbytes : n + s.size ≤ 140737488355328) (hbase : base ≤ w.heap.size) :
    ∃ v' w', (Builtin.append_ #[t, u] ty #[v, .string s]).run P w = .ok v' w' ∧ w'.ownsRow base e 1 v' (n + s.size) (xs ++ Lib.strCells s) ∧ w.grownBy w' v.ownBlock ∧
      (v'.ownBlock = v.ownBlock ∨ ∀ g, v'.ownBlock = some g → w.heap.size ≤ g) := by
  obtain ⟨v', w', hr, h2, h3, _⟩ := Lib.run_append_own_string (P := P) w base t u ty e i ht hu hi hz hsize hby v n xs hown s h63 hbytes hbase
  refine ⟨v', w', hr, h2, h3, ?_⟩
  have hxl : xs.length = n := by simpa using hown.1
  rcases hown.2 with ⟨rfl, rfl⟩ | ⟨g, cap, cur, rfl, hbg, hg, hnc, hcm, hcs, htake⟩
  · have hown2 : w.ownsRow w.heap.size e 1 (.slice none 0 0) 0 xs := ⟨by simpa using hxl, .inl ⟨rfl, rfl⟩⟩
    obtain ⟨v2, w2, hr2, q2, _, _⟩ := Lib.run_append_own_string (P := P) w w.heap.size t u ty e i ht hu hi hz hsize hby (.slice none 0 0) 0 xs hown2 s h63 hbytes (Nat.le_refl _)
    have e2 := hr.symm.trans hr2
    cases e2
    refine .inr fun g hg => ?_
    rcases q2.2 with ⟨rfl, _⟩ | ⟨g', cap, cur, rfl, hbg, _⟩
    · cases hg
    · cases hg; exact hbg
  · by_cases hroom : n + s.size ≤ cap
    · have hr2 := Lib.run_append_room_string (P := P) w t u ty e i ht hu hi hsize g n cap cur hg s hroom (by omega)
      have e2 := hr.symm.trans hr2
      cases e2
      exact .inl rfl
    · have holds : ∀ j u, xs[j]? = some u → w.cell? ((⟨g, 0, none⟩ : Addr).add j) = some u := hown.cells (g := g) rfl
      have hr2 := Lib.run_append_grow_string (P := P) w t u ty e i (.int .u8 0) ht hu hi hz ⟨g, 0, none⟩ n cap xs (by rw [hsize]; simpa using hxl) holds s (by omega) (by simp only [maxLen] at h63; omega) (by rw [hby]; exact growslice_fits (by omega) (by omega))
      have e2 := hr.symm.trans hr2
      cases e2
      refine .inr fun g hg => ?_
      cases hg; exact Nat.le_refl _
theorem wp_append_place {P : Program} {w : World} {ops : Array Oper} {rest : List Oper} {o : Oper} {a : Act} {Q : Exit → Act → World → Prop} (hgd : o.guard = none) (sl x : Operand) (t u : TypeId)
    (ho : o.op = .call { callee := .builtin .append, args := #[sl, x], argTypes := #[t, u] })
    (base : Nat) (e : TypeId) (i : TypeInfo) (ht : P.underlying t = some (.slice e)) (hu : P.underlying u = some .string) (hi : P.info? e = some i) (hz : i.zero = some (.int .u8 0))
    (hsize : i.size = 1) (hby : i.bytes = 1) (v : Value) (n : Nat) (xs : List Value) (hs : a.eval sl = v) (hown : w.ownsRow base e 1 v n xs) (s : ByteArray) (hx : a.eval x = .string s)
    (h63 : n + s.size ≤ maxLen) (hbytes : n + s.size ≤ 140737488355328) (hbase : base ≤ w.heap.size)
    (h : ∀ v' w', w'.ownsRow base e 1 v' (n + s.size) (xs ++ Lib.strCells s) → w.grownBy w' v.ownBlock → (v'.ownBlock = v.ownBlock ∨ ∀ g, v'.ownBlock = some g → w.heap.size ≤ g) → wpList P ops Q rest (a.put o.dst v') w') : wpList P ops Q (o :: rest) a w := by
  refine wpList_plain hgd fun K hK => ?_
  obtain ⟨v', w', hr, h2, h3, h4⟩ := append_place (P := P) w base t u o.type e i ht hu hi hz hsize hby v n xs hown s h63 hbytes hbase
  unfold Oper.wp execOp
  simp only [ho, resolve, invoke, builtin, Sem.run_bind, Sem.run_pure, Result.andThen_ok, List.map_toArray, List.map_cons, List.map_nil, hs, hx, hr]
  exact hK _ _ (h v' w' h2 h3 h4)

set_option maxHeartbeats 4000000 in
set_option maxRecDepth 100000 in
theorem Tryz.check_exact (B b : Nat) (p v : Value) (bs : List Value) (w : World) (hp : p = .pointer none ∨ p = .pointer (some ⟨b, 0, none⟩)) (hB : B ≤ b) (hbk : w.heap[b]? = some (.cells #[p, v] (Tryz.laysB_ren.t 72) (0, 0))) (hown : w.ownsRow B (Tryz.laysB_ren.t 5) 1 v bs.length bs) (hne : v.ownBlock ≠ some b) :
    Calls Tryz.prog (Tryz.laysB_ren.f 240) #[.pointer (some ⟨b, 0, none⟩)] w fun e w1 => e = .returned (.tuple #[]) ∧
      w1.heap[b]? = some (.cells #[.pointer (some ⟨b, 0, none⟩), v] (Tryz.laysB_ren.t 72) (0, 0)) ∧ w1.ownsRow B (Tryz.laysB_ren.t 5) 1 v bs.length bs ∧ (∀ k, k ≠ b → w1.heap[k]? = w.heap[k]?) ∧ w1.heap.size = w.heap.size ∧ Below B w w1 := by
  have h0 : w.cell? ⟨b, 0, none⟩ = some p := by rw [Lib.cell_of_heap hbk]; rfl
  rcases hp with rfl | rfl
  · have hAt : Lib.BuilderAt (Tryz.laysB_ren.t 72) (Tryz.laysB_ren.t 5) B b (.pointer none) bs w := ⟨hB, v, hbk, hown, hne⟩
    refine (Any.Builder_copyCheck_fresh Tryz.laysB240 Tryz.laysB_extra.toX72 b w hAt.cell0 hAt.shape hAt.frozen0).mono ?_
    rintro e w1 ⟨rfl, rfl⟩
    have hk : ∀ k, k ≠ b → (w.setCell ⟨b, 0, none⟩ (.pointer (some ⟨b, 0, none⟩))).heap[k]? = w.heap[k]? := fun k hk => by
      have hk' : b ≠ k := fun e => hk e.symm
      simp [World.setCell, Array.getElem?_modify, hk']
    have hb1 : (w.setCell ⟨b, 0, none⟩ (.pointer (some ⟨b, 0, none⟩))).heap[b]? = some (.cells #[.pointer (some ⟨b, 0, none⟩), v] (Tryz.laysB_ren.t 72) (0, 0)) := by
      simp [World.setCell, Array.getElem?_modify, hbk]
    refine ⟨rfl, hb1, ?_, hk, by simp [World.setCell], (Below.refl B w).setCell (p := ⟨b, 0, none⟩) hB _⟩
    obtain ⟨g1, g2⟩ := hown
    refine ⟨g1, ?_⟩
    rcases g2 with g2 | ⟨g, cap, cur, rfl, q1, q2, q3⟩
    · exact .inl g2
    · refine .inr ⟨g, cap, cur, rfl, q1, ?_, q3⟩
      rw [hk g (fun e => hne (by rw [← e]; rfl))]; exact q2
  · refine (Any.Builder_copyCheck_used Tryz.laysB240 Tryz.laysB_extra.toX72 b w h0).mono ?_
    rintro e w1 ⟨rfl, rfl⟩
    exact ⟨rfl, hbk, hown, fun _ _ => rfl, rfl, Below.refl _ _⟩

set_option maxHeartbeats 4000000 in
set_option maxRecDepth 100000 in
theorem Tryz.write_exact (B b : Nat) (p v : Value) (bs : List Value) (s : ByteArray) (w : World) (hp : p = .pointer none ∨ p = .pointer (some ⟨b, 0, none⟩)) (hB : B ≤ b) (hbk : w.heap[b]? = some (.cells #[p, v] (Tryz.laysB_ren.t 72) (0, 0))) (hown : w.ownsRow B (Tryz.laysB_ren.t 5) 1 v bs.length bs) (hne : v.ownBlock ≠ some b) (hlen : bs.length + s.size ≤ 140737488355328) (hBw : B ≤ w.heap.size) :
    Calls Tryz.prog (Tryz.laysB_ren.f 166) #[.pointer (some ⟨b, 0, none⟩), .string s] w fun e w' => e = .returned (.tuple #[.int .i64 s.size, .nilIface]) ∧
      ∃ v', w'.heap[b]? = some (.cells #[.pointer (some ⟨b, 0, none⟩), v'] (Tryz.laysB_ren.t 72) (0, 0)) ∧ w'.ownsRow B (Tryz.laysB_ren.t 5) 1 v' (bs ++ Lib.strCells s).length (bs ++ Lib.strCells s) ∧ v'.ownBlock ≠ some b ∧ (v'.ownBlock = v.ownBlock ∨ ∀ g, v'.ownBlock = some g → w.heap.size ≤ g) ∧ Rest b v.ownBlock w w' ∧ Below B w w' ∧ w.heap.size ≤ w'.heap.size := by
  have L := Tryz.laysB166
  have X := Tryz.laysB_extra
  obtain ⟨i0, hi, hz0, hz1, hz2⟩ := info_parts X.infoByte
  have mixed := L.mixed
  have u72 := run_underlying L.t72; have u70 := run_underlying L.t70; have u37 := run_underlying L.t37; have u3 := run_underlying L.t3
  have u9 := run_underlying L.t9; have u4 := run_underlying L.t4; have u164 := run_underlying L.t164; have u5 := run_underlying X.t5
  have a72 := L.a72; have z72 := L.z72; have v72 := L.v72; have t72 := L.t72
  have a70 := L.a70; have z70 := L.z70; have v70 := L.v70; have t70 := L.t70
  have a37 := L.a37; have z37 := L.z37; have v37 := L.v37; have t37 := L.t37
  have a3 := L.a3; have z3 := L.z3; have v3 := L.v3; have t3 := L.t3
  have a9 := L.a9; have z9 := L.z9; have v9 := L.v9; have t9 := L.t9
  have a5 := X.a5; have z5 := X.z5; have v5 := X.v5; have t5 := X.t5
  have e240 : ∀ args w, (callFunc (Tryz.laysB_ren.f 240) args).run Tryz.prog w = .ok (.enter (Tryz.laysB_ren.f 240) args) w := enters_of L.f240 (by kernel_rfl) rfl
  go_enter L.f166, Body.n166_ntmps Tryz.laysB_ren
  go_wp2_with (go_at_fn (Tryz.laysB_ren.f 240); refine (Tryz.check_exact B b p v bs _ hp hB hbk hown hne).mono ?_)
  rintro e w1 ⟨rfl, hbk1, hown1, hk1, hs1, hb1⟩
  have c0 : w1.cell? ⟨b, 0, none⟩ = some (.pointer (some ⟨b, 0, none⟩)) := by rw [Lib.cell_of_heap hbk1]; rfl
  have c1 : w1.cell? ⟨b, 1, none⟩ = some v := by rw [Lib.cell_of_heap hbk1]; rfl
  go_wp2_with (at_builtin; refine wp_append_place rfl _ _ (Tryz.laysB_ren.t 37) (Tryz.laysB_ren.t 9) rfl B (Tryz.laysB_ren.t 5) i0 L.t37 L.t9 hi hz0 hz1 hz2 _ _ _ rfl hown1 s rfl ?c3 ?c4 ?c5 ?_)
  case c3 => unfold maxLen; omega
  case c4 => omega
  case c5 => omega
  intro v' w2 hown' hgrow hplace
  have hlt : b < w1.heap.size := by
    rcases Nat.lt_or_ge b w1.heap.size with h' | h'
    · exact h'
    · simp [Array.getElem?_eq_none h'] at hbk1
  have hb2 : w2.heap[b]? = some (.cells #[.pointer (some ⟨b, 0, none⟩), v] (Tryz.laysB_ren.t 72) (0, 0)) := by
    rw [hgrow.block b hlt (fun e => hne e.symm)]; exact hbk1
  have d0 : w2.cell? ⟨b, 0, none⟩ = some (.pointer (some ⟨b, 0, none⟩)) := by rw [Lib.cell_of_heap hb2]; rfl
  have d1 : w2.cell? ⟨b, 1, none⟩ = some v := by rw [Lib.cell_of_heap hb2]; rfl
  have f1 : w2.frozen? ⟨b, 1, none⟩ = false := Lib.frozen_of_heap hb2 1
  have hne' : v'.ownBlock ≠ some b := by
    rcases hplace with h | h
    · rw [h]; exact hne
    · intro e
      have := h b e
      omega
  obtain ⟨ao, n', cap, rfl⟩ : ∃ ao n' cap, v' = .slice ao n' cap := by
    rcases hown'.2 with ⟨hv, _⟩ | ⟨g, cap, cur, hv, _⟩
    · exact ⟨_, _, _, hv⟩
    · exact ⟨_, _, _, hv⟩
  go_wp2
  go_ret2
  have hput := Lib.BuilderAt.put (T := (Tryz.laysB_ren.t 72)) (e := (Tryz.laysB_ren.t 5)) hB hb2 (bs' := bs ++ Lib.strCells s) (by simpa [Lib.strCells_length] using hown') X.neB5
  obtain ⟨_, v2, hv2, hown2, hne2⟩ := hput
  have hv3 : (w2.setCell ⟨b, 1, none⟩ (.slice ao n' cap)).heap[b]? = some (.cells #[.pointer (some ⟨b, 0, none⟩), .slice ao n' cap] (Tryz.laysB_ren.t 72) (0, 0)) := by
    simp [World.setCell, Array.getElem?_modify, hb2]
  rw [hv3] at hv2
  have e3 : (.slice ao n' cap : Value) = v2 := by simp at hv2; exact hv2
  subst e3
  refine ⟨rfl, _, hv3, hown2, hne', ?_, fun k hk hkb hrow => ?_, ?_, ?_⟩
  · exact hplace
  · have hkb' : b ≠ k := fun e => hkb e.symm
    have e4 : (w2.setCell ⟨b, 1, none⟩ (.slice ao n' cap)).heap[k]? = w2.heap[k]? := by simp [World.setCell, Array.getElem?_modify, hkb']
    rw [e4, hgrow.block k (by omega) (fun e => hrow e.symm), hk1 k hkb]
  · exact (hb1.grown hgrow (by omega) (fun k hk => (hown1.lt k hk).1)).setCell (p := ⟨b, 1, none⟩) hB _
  · have := hgrow.size
    have e5 : (w2.setCell ⟨b, 1, none⟩ (.slice ao n' cap)).heap.size = w2.heap.size := by simp [World.setCell]
    omega
end Go.Proofs
