/- The law FnExactTableMake holds: it returns true, and the input reads as it did. No condition. This is part 6 of 6 of its proof. -/
import Derived.Test.YtlbpnfhhoalenaaDoorXFnExactTableMake5
import Derived.Shelf.Strings.BuilderX
import Derived.BigCall
import Derived.BigGuard
import Derived.Lib.AppendStr
import Derived.Shelf.Strings.Builder1
import Derived.Shelf.Strings.Builder2
import Derived.Test.YtlbpnfhhoalenaaDoorRows
import Derived.WalkKit
import Derived.ProofKit
import Derived.OpenShut
import Derived.ShutString
import Derived.ChangeOld
import Derived.Below
import Derived.Carry
import Derived.SizedLaws
import Derived.LaidMore
import Derived.Stop.Joined
import Derived.Stop.LaidErr
import Derived.Lib.LaidTab
import Derived.WalkSmall
import Derived.MakeChecks
import Derived.SevenTiedAt
import Derived.Test.YtlbpnfhhoalenaaDoorCards
import Derived.Test.YtlbpnfhhoalenaaDoorTie

/- What is said of a tree part by part, in order: a list. -/
set_option linter.unusedVariables false
set_option linter.unusedSimpArgs false
namespace Go.Proofs.YtlbpnfhhoalenaaDoor
open Go Go.Av

def linT {α : Type} (f : Nat → List ByteArray → Tr → α) : Nat → List ByteArray → Tr → List α
  | 0, _, _ => []
  | n + 1, ps, .mk d m t ns ks => f (n + 1) ps (.mk d m t ns ks) :: ((ns.zip ks).map fun y => linT f n (ps ++ [y.1]) y.2).flatten
theorem linT_step {α : Type} (f : Nat → List ByteArray → Tr → α) (n : Nat) (ps : List ByteArray) (d : Bool) (m : Int) (t : ByteArray) (ns : List ByteArray) (ks : List Tr) :
    linT f (n + 1) ps (.mk d m t ns ks) = f (n + 1) ps (.mk d m t ns ks) :: ((ns.zip ks).map fun y => linT f n (ps ++ [y.1]) y.2).flatten := rfl
theorem zip_sum {f : Tr → Nat} : ∀ {ns : List ByteArray} {ks : List Tr}, sumBy (fun y : ByteArray × Tr => f y.2 + 1) (ns.zip ks) ≤ ks.length + sumBy f ks
  | [], ks => by simp [sumBy]
  | _ :: _, [] => by simp [sumBy]
  | x :: ns, k :: ks => by
    have := zip_sum (f := f) (ns := ns) (ks := ks)
    simp only [List.zip_cons_cons, sumBy, List.length_cons]; omega
theorem flat_sum {α β : Type} {f : β → List α} {g : β → Nat} : ∀ {l : List β}, (∀ x, x ∈ l → (f x).length ≤ g x) → ((l.map f).flatten).length ≤ sumBy g l
  | [], _ => by simp [sumBy]
  | a :: r, h => by
    have h1 := h a (by simp)
    have h2 := flat_sum (l := r) fun x hx => h x (by simp [hx])
    simp only [List.map_cons, List.flatten_cons, List.length_append, sumBy]; omega
theorem linT_len {α : Type} (f : Nat → List ByteArray → Tr → α) : ∀ (n : Nat) (ps : List ByteArray) (x : Tr), (linT f n ps x).length ≤ cntT n x + 1
  | 0, _, _ => by simp [linT]
  | n + 1, ps, .mk d m t ns ks => by
    have h1 : (((ns.zip ks).map fun y => linT f n (ps ++ [y.1]) y.2).flatten).length ≤ sumBy (fun y : ByteArray × Tr => cntT n y.2 + 1) (ns.zip ks) := flat_sum fun y _ => linT_len f n _ _
    have h2 := zip_sum (f := cntT n) (ns := ns) (ks := ks)
    rw [linT_step, List.length_cons]
    show _ ≤ ks.length + sumBy (cntT n) ks + 1
    omega
theorem flat_take {α β : Type} {f : β → List α} {l : List β} {j : Nat} {y : β} (h : l[j]? = some y) : ((l.take (j + 1)).map f).flatten = ((l.take j).map f).flatten ++ f y := by
  rw [List.take_add_one, h, Option.toList_some, List.map_append, List.flatten_append]; simp
theorem sumS_snoc (y : ByteArray) : ∀ l : List ByteArray, sumS (l ++ [y]) = sumS l + y.size
  | [] => by simp [sumS]
  | a :: r => by simp only [List.cons_append, sumS, sumS_snoc y r]; omega

section
variable {w0 : World} {σ : Vw} {α : Type}

theorem none_old {σ s : Vw} (k : Keeps σ s) {i : Nat} (h : s i = none) : σ i = none := by
  cases hs : σ i with
  | none => rfl
  | some r => rw [k i r hs] at h; cases h

/-- One element, in a row of its own. -/
theorem OAcc.single {ety n b : Nat} {Rel : (Addr → Option Value) → List Value → α → Prop} {O : Vw → List Nat → List Value → α → Prop} (ok : OOk w0 n Rel O) {es : List Value} {f : List Nat} {y : α} (hb : w0.heap.size ≤ b) (hn : σ b = none) (hy : O σ f es y) :
    OAcc w0 ety n O (σ.put b ⟨ety, es, es.length, (0, 0)⟩) (b :: f) (.slice (some ⟨b, 0, none⟩) 1 1) [y] := by
  have hf : ∀ i, i ∈ f → i ≠ b := fun i hi e => (ok.dom _ _ _ _ hy i hi).2 (e ▸ hn)
  refine ⟨by simp, List.nodup_cons.2 ⟨fun h => hf b h rfl, ok.nodup _ _ _ _ hy⟩, .inr ⟨b, 1, [es], [f], rfl, by simp, hb, ?_, rfl, rfl, by simp, fun j c x g e1 e2 e3 => ?_⟩⟩
  · rw [put_at, ok.len _ _ _ _ hy]; simp
  · cases j with
    | zero =>
      simp at e1 e2 e3
      subst e1 e2 e3
      exact ok.frame _ _ _ _ _ hy fun i hi => put_ne (hf i hi)
    | succ j => simp at e1

/-- A path, and a name more. -/
theorem push_path {v : Value} {ps : List ByteArray} {y : ByteArray} (h : RSl 1 RS (Av.get w0 σ) v ps) (hl : ps.length ≤ 1000000) (hy : y.size ≤ 1000000) {R : Value → Vw → Prop}
    (hR : ∀ v' F σ', Keeps σ σ' → OStrs w0 σ' F v' (ps ++ [y]) → (∀ b, b ∈ F → σ b = none) → R v' σ') :
    pNew w0 t_string [] σ (fun n0 s1 => pAppendS w0 t_string 1 16 (.slice (some (Addr.mk n0 0 none)) 0 0) v s1 (fun v2 s3 => pVal false 1 (.string y) ((allOne [.string y]) ∧ (pAppend w0 t_string 1 16 v2 1 [.string y] s3 (fun v4 s5 => R v4 s5))))) := by
  intro b h1 h2
  have kb : Keeps σ (σ.put b ⟨t_string, [], 0, (0, 0)⟩) := Keeps.put h2
  have hb0 : ∀ i, i ∈ [b] → σ i = none := fun i hi => by rw [List.mem_singleton.1 hi]; exact h2
  refine (OAcc.new (w0 := w0) (σ := σ) (ety := t_string) (n := 1) (O := OStr) h1).all (ok_str w0) h kb.le (fun es y hy => ⟨rfl, hy⟩) (by simp; omega) (by omega) fun v1 F1 s1 k1 o1 f1 => ?_
  rw [List.nil_append] at o1
  have K1 := k1.old kb hb0
  have hF1 := fresh_in kb hb0 f1
  rw [pVal1 rfl]
  refine o1.one (ok_str w0) (f := []) (y := y) ⟨rfl, rfl, by omega⟩ (by simp) (by omega) (by omega) fun v2 F2 s2 k2 o2 f2 => ?_
  refine hR v2 F2 s2 (k2.old K1 hF1) o2.osl (fresh_in K1 hF1 fun j hj => ?_)
  rcases f2 j hj with h | h | h
  · exact .inl h
  · cases h
  · exact .inr h
theorem spec_path {v : Value} {ps : List ByteArray} {y : ByteArray} (h : RSl 1 RS (Av.get w0 σ) v ps) (hl : ps.length ≤ 1000000) (hy : y.size ≤ 1000000) {R : Value → Vw → Prop}
    (hR : ∀ v' F σ', Keeps σ σ' → OStrs w0 σ' F v' (ps ++ [y]) → (∀ b, b ∈ F → σ b = none) → R v' σ') : AC Tryd.prog w0 n_spec_l3Path [v, .string y] σ R := by
  refine ac_spec_l3Path ?_
  unfold vc_spec_l3Path
  exact push_path h hl hy hR
theorem below_path {v : Value} {ps : List ByteArray} {y : ByteArray} (h : RSl 1 RS (Av.get w0 σ) v ps) (hl : ps.length ≤ 1000000) (hy : y.size ≤ 1000000) {R : Value → Vw → Prop}
    (hR : ∀ v' F σ', Keeps σ σ' → OStrs w0 σ' F v' (ps ++ [y]) → (∀ b, b ∈ F → σ b = none) → R v' σ') : AC Tryd.prog w0 n_impl_below [v, .string y] σ R := by
  refine ac_impl_below ?_
  unfold vc_impl_below
  exact push_path h hl hy hR
theorem copy_strs {v : Value} {xs : List ByteArray} (h : RSl 1 RS (Av.get w0 σ) v xs) (hl : xs.length ≤ 1000000000) {K : Value → Vw → Prop}
    (hK : ∀ v' F σ', Keeps σ σ' → OStrs w0 σ' F v' xs → (∀ b, b ∈ F → σ b = none) → K v' σ') : pNew w0 t_string [] σ (fun n0 s1 => pAppendS w0 t_string 1 16 (.slice (some (Addr.mk n0 0 none)) 0 0) v s1 (fun v2 s3 => K v2 s3)) := by
  intro b h1 h2
  have kb : Keeps σ (σ.put b ⟨t_string, [], 0, (0, 0)⟩) := Keeps.put h2
  have hb0 : ∀ i, i ∈ [b] → σ i = none := fun i hi => by rw [List.mem_singleton.1 hi]; exact h2
  refine (OAcc.new (w0 := w0) (σ := σ) (ety := t_string) (n := 1) (O := OStr) h1).all (ok_str w0) h kb.le (fun es y hy => ⟨rfl, hy⟩) (by simp; omega) (by omega) fun v' F' σ' k1 o1 f1 => ?_
  exact hK v' F' σ' (k1.old kb hb0) (by simpa using o1.osl) (fresh_in kb hb0 f1)

/-! ### By the reference's hand: a loop over the kids -/
def BLin (w0 : World) (F ety : Nat) : List Value → (AX → List Value → Vw → Prop) → Vw → Prop := fun l6 K7 s8 =>
  pLen (vget l6 6) (fun v9 => pBin Tryd.prog 3 .lss (vget l6 2) v9 (fun v10 => pIf v10 (pIndexAddr 1 (vget l6 6) (vget l6 2) (fun v11 => pLoad w0 1 v11 s8 (fun g12 => pIndexAddr 5 (vget l6 7) (vget l6 2) (fun v13 => pLoad w0 5 v13 s8 (fun g14 =>
    AC Tryd.prog w0 n_spec_l3Path [vget l6 0, g12 0] s8 (fun v15 s16 => (Stay w0 s8 s16 v13 5) ∧ (AC Tryd.prog w0 F ([v15, .agg (⟨[g14 0, g14 1, g14 2, g14 3, g14 4]⟩)]) s16 (fun v17 s18 => pAppendS w0 ety 5 64 (vget l6 1) v17 s18 (fun v19 s20 => pBin Tryd.prog 3 .add (vget l6 2) (.int .i64 1) (fun v21 =>
    K7 AX.normal [vget l6 0, v19, v21, vget l6 3, vget l6 4, vget l6 5, vget l6 6, vget l6 7] s20)))))))))) (K7 (AX.exit 0) [vget l6 0, vget l6 1, vget l6 2, vget l6 3, vget l6 4, vget l6 5, vget l6 6, vget l6 7] s8)))

/-- What a function that lists a part and all below does. -/
def Lists (w0 : World) (F ety : Nat) (O : Vw → List Nat → List Value → α → Prop) (f : Nat → List ByteArray → Tr → α) (n : Nat) : Prop :=
  ∀ {s : Vw} {v : Value} {es : List Value} {qs : List ByteArray} {x : Tr} {R : Value → Vw → Prop}, RSl 1 RS (Av.get w0 s) v qs → RT n (Av.get w0 s) es x → shortT n x → cntT n x ≤ 100000 → qs.length + sumS qs + 6 * n ≤ 1000000 →
    (∀ v' G s', Keeps s s' → OAcc w0 ety 5 O s' G v' (linT f n qs x) → (∀ i, i ∈ G → s i = none) → R v' s') → AC Tryd.prog w0 F [v, .agg ⟨es⟩] s R

theorem lin_loop {F ety n : Nat} {Rel : (Addr → Option Value) → List Value → α → Prop} {O : Vw → List Nat → List Value → α → Prop} (ok : OOk w0 5 Rel O) {f : Nat → List ByteArray → Tr → α} (call : Lists w0 F ety O f n)
    {s0 : Vw} {v u w acc d m t : Value} {ps ns : List ByteArray} {ks : List Tr} {y : α} {G : List Nat}
    (hv : RSl 1 RS (Av.get w0 σ) v ps) (hu : RSl 1 RS (Av.get w0 σ) u ns) (hw : RSl 5 (RT n) (Av.get w0 σ) w ks) (hl : ns.length = ks.length) (hns : ∀ x, x ∈ ns → x.size ≤ 5) (hks : ∀ k, k ∈ ks → shortT n k)
    (hc : ks.length + sumBy (cntT n) ks ≤ 100000) (hps : ps.length + sumS ps + 6 * (n + 1) ≤ 1000000) (hacc : OAcc w0 ety 5 O s0 G acc [y]) (k0 : Keeps σ s0) (hG : ∀ i, i ∈ G → σ i = none) {K : AX → List Value → Vw → Prop}
    (hK : ∀ v' G' s', Keeps σ s' → OAcc w0 ety 5 O s' G' v' (y :: ((ns.zip ks).map fun z => linT f n (ps ++ [z.1]) z.2).flatten) → (∀ i, i ∈ G' → σ i = none) → K (.exit 0) [v, v', .int .i64 (ns.length : Nat), d, m, t, u, w] s') :
    pLoop (BLin w0 F ety) [v, acc, .int .i64 0, d, m, t, u, w] s0 K := by
  have hl4 := hu.le
  refine loop_rule (m := ns.length) (fun c l s => ∃ (j : Nat) (G' : List Nat) (a' : Value), c + j = ns.length ∧ Keeps σ s ∧ (∀ i, i ∈ G' → σ i = none) ∧ OAcc w0 ety 5 O s G' a' (y :: (((ns.zip ks).take j).map fun z => linT f n (ps ++ [z.1]) z.2).flatten) ∧
    l = [v, a', .int .i64 (j : Nat), d, m, t, u, w]) ?_ ⟨0, G, acc, by omega, k0, hG, by simpa using hacc, rfl⟩
  rintro c l s L ⟨j, G', a', hcj, ks1, hG', ho, rfl⟩ hL
  unfold BLin
  simp only [vget, List.getD_cons_zero, List.getD_cons_succ]
  have hu' := hu.mono ks1.le fun _ _ h => h
  have hv' := hv.mono ks1.le fun _ _ h => h
  have hw' := hw.mono ks1.le fun es x => mono_rt n _ _ es x ks1.le
  rw [hu'.len, pBin_lt, pIf_d]
  refine ⟨fun hi => ?_, fun hi => ?_⟩
  · have hx1 := List.getElem?_eq_getElem (show j < ns.length by omega)
    have hx2 := List.getElem?_eq_getElem (show j < ks.length by omega)
    generalize hxi : ns[j]'(by omega) = y1 at hx1
    generalize hxk : ks[j]'(by omega) = y2 at hx2
    have h5y := hns _ (List.mem_of_getElem? hx1)
    have hky := hks _ (List.mem_of_getElem? hx2)
    have hz : (ns.zip ks)[j]? = some (y1, y2) := by rw [List.getElem?_zip_eq_some]; exact ⟨hx1, hx2⟩
    have hcy : cntT n y2 ≤ 100000 := by
      have := sumBy_mem (f := cntT n) (List.mem_of_getElem? hx2); omega
    refine RSl.at1 hu' hx1 fun g hg hgs => ?_
    rw [hg]
    refine RSl.atp hw' hx2 fun p2 g2 hg2 => ?_
    refine spec_path hv' (by omega) (by omega) fun pv PF s2 k2 op fp => ⟨k2.stay, ?_⟩
    have o2 := ho.frame ok (k2.but_at fun b hb => (ho.dom ok b hb).2)
    refine call (op.rel (ok_str w0)) (mono_rt n _ _ _ _ k2.le hg2) hky hcy (by rw [List.length_append, sumS_snoc]; simp only [List.length_cons, List.length_nil]; omega) fun v3 G3 s3 k3 o3 f3 => ?_
    have o4 := o2.frame ok (k3.but_at fun b hb => (o2.dom ok b hb).2)
    have hlen1 : (((ns.zip ks).take j).map fun z => linT f n (ps ++ [z.1]) z.2).flatten.length ≤ 100000 := by
      have q1 : (((ns.zip ks).take j).map fun z => linT f n (ps ++ [z.1]) z.2).flatten.length ≤ sumBy (fun z : ByteArray × Tr => cntT n z.2 + 1) ((ns.zip ks).take j) := flat_sum fun z _ => linT_len f n _ _
      have q2 := sumBy_le (f := fun z : ByteArray × Tr => cntT n z.2 + 1) (xs := ns.zip ks) j
      have q3 := zip_sum (f := cntT n) (ns := ns) (ks := ks)
      omega
    have hlen2 := linT_len f n (ps ++ [y1]) y2
    refine o4.allOwn ok o3.osl (fun i hi hi' => (o2.dom ok i hi').2 (f3 i hi)) (by rw [List.length_cons]; omega) (by omega) fun v5 G5 s5 k5 o5 f5 => ?_
    rw [pBin_add (by omega)]
    have K3 := (ks1.trans k2).trans k3
    refine hL _ _ (c - 1) (by omega) ⟨j + 1, G5, v5, by omega, k5.old K3 hG', fun i hi => ?_, ?_, rfl⟩
    · rcases f5 i hi with h | h | h
      · exact hG' i h
      · exact none_old (ks1.trans k2) (f3 i h)
      · exact none_old K3 h
    · rw [flat_take hz]; exact o5
  · have e : j = ns.length := by omega
    subst e
    rw [List.take_of_length_le (by rw [List.length_zip]; omega)] at ho
    exact hK a' G' s ks1 ho hG'

/-! ### By the program's hand: a function value that is called part by part -/
/-- A path that is read whatever becomes of the rows of G. -/
def PathIn (w0 : World) (s : Vw) (G : List Nat) (v : Value) (ps : List ByteArray) : Prop := ∀ s', KeepsBut G s s' → RSl 1 RS (Av.get w0 s') v ps
theorem PathIn.of_keeps {s : Vw} {G : List Nat} {v : Value} {ps : List ByteArray} (h : RSl 1 RS (Av.get w0 σ) v ps) (k : Keeps σ s) (hG : ∀ i, i ∈ G → σ i = none) : PathIn w0 s G v ps :=
  fun s' k' => h.mono (k'.old k hG).le fun _ _ h => h
theorem PathIn.of_own {s : Vw} {G P : List Nat} {v : Value} {ps : List ByteArray} (h : OStrs w0 s P v ps) (hG : ∀ i, i ∈ P → i ∉ G) : PathIn w0 s G v ps :=
  fun s' k' => (h.frame (ok_str w0) (k'.at (fun b hb => (h.dom (ok_str w0) b hb).2) hG)).rel (ok_str w0)
theorem PathIn.next {s s1 : Vw} {G G' : List Nat} {v : Value} {ps : List ByteArray} (h : PathIn w0 s G v ps) (k : KeepsBut G s s1) (hG : ∀ i, i ∈ G' → i ∈ G ∨ s i = none) : PathIn w0 s1 G' v ps :=
  fun s' k' => h s' fun i r hi hn => k' i r (k i r hi hn) fun h => by
    rcases hG i h with h | h
    · exact hn h
    · rw [hi] at h; cases h
theorem PathIn.now {s : Vw} {G : List Nat} {v : Value} {ps : List ByteArray} (h : PathIn w0 s G v ps) : RSl 1 RS (Av.get w0 s) v ps := h s (KeepsBut.refl _ _)

/-- A box that holds a list. -/
def CB (w0 : World) (ety : Nat) (O : Vw → List Nat → List Value → α → Prop) (s : Vw) (b : Nat) (G : List Nat) (xs : List α) : Prop :=
  w0.heap.size ≤ b ∧ b ∉ G ∧ ∃ v e2, s b = some ⟨e2, [v], 1, (0, 0)⟩ ∧ OAcc w0 ety 5 O s G v xs
/-- What the function value does: one more is in the box. -/
def Puts (w0 : World) (c ety : Nat) (O : Vw → List Nat → List Value → α → Prop) (f : Nat → List ByteArray → Tr → α) : Prop :=
  ∀ {n b : Nat} {s : Vw} {G : List Nat} {ps : List ByteArray} {v : Value} {es : List Value} {x : Tr} {xs : List α} {R : Value → Vw → Prop}, n ≤ 5 → RT n (Av.get w0 s) es x → shortT n x → cntT n x ≤ 100000 → RSl 1 RS (Av.get w0 s) v ps → ps.length + sumS ps ≤ 1000000 →
    CB w0 ety O s b G xs → xs.length ≤ 1000000 → (∀ G' s', KeepsBut (b :: G) s s' → CB w0 ety O s' b G' (xs ++ [f n ps x]) → (∀ i, i ∈ G' → i ∈ G ∨ s i = none) → R (.tuple ⟨[]⟩) s') →
    AC Tryd.prog w0 c [v, .agg ⟨es⟩, .pointer (some ⟨b, 0, none⟩)] s R

theorem CB.frame {ety b : Nat} {Rel : (Addr → Option Value) → List Value → α → Prop} {O : Vw → List Nat → List Value → α → Prop} (ok : OOk w0 5 Rel O) {s s' : Vw} {G : List Nat} {xs : List α} (h : CB w0 ety O s b G xs) (k : Keeps s s') : CB w0 ety O s' b G xs := by
  obtain ⟨h1, h2, v, e2, h3, h4⟩ := h
  exact ⟨h1, h2, v, e2, k _ _ h3, h4.frame ok (k.but_at fun i hi => (h4.dom ok i hi).2)⟩
theorem CB.dom {ety b : Nat} {Rel : (Addr → Option Value) → List Value → α → Prop} {O : Vw → List Nat → List Value → α → Prop} (ok : OOk w0 5 Rel O) {s : Vw} {G : List Nat} {xs : List α} (h : CB w0 ety O s b G xs) : ∀ i, i ∈ b :: G → s i ≠ none := by
  obtain ⟨h1, h2, v, e2, h3, h4⟩ := h
  intro i hi
  rcases List.mem_cons.1 hi with rfl | hi
  · rw [h3]; simp
  · exact (h4.dom ok i hi).2

set_option maxRecDepth 20000 in
theorem each_list {c ety : Nat} {Rel : (Addr → Option Value) → List Value → α → Prop} {O : Vw → List Nat → List Value → α → Prop} (ok : OOk w0 5 Rel O) {f : Nat → List ByteArray → Tr → α} (clo : Puts w0 c ety O f) :
    ∀ (n : Nat) {σ0 s : Vw} {b : Nat} {G : List Nat} {xs : List α} {ps : List ByteArray} {v : Value} {es : List Value} {x : Tr} {R : Value → Vw → Prop}, n ≤ 5 →
    RT n (Av.get w0 σ0) es x → shortT n x → cntT n x ≤ 100000 → Keeps σ0 s → (∀ i, i ∈ b :: G → σ0 i = none) → CB w0 ety O s b G xs → PathIn w0 s (b :: G) v ps → ps.length + sumS ps + 6 * n ≤ 1000000 → xs.length + cntT n x ≤ 900000 →
    (∀ G' s', KeepsBut (b :: G) s s' → CB w0 ety O s' b G' (xs ++ linT f n ps x) → (∀ i, i ∈ G' → i ∈ G ∨ s i = none) → R (.tuple ⟨[]⟩) s') →
    AC Tryd.prog w0 n_impl_Tree_each [.agg ⟨es⟩, v, .func (.func c) ⟨[]⟩ ⟨[.pointer (some ⟨b, 0, none⟩)]⟩] s R := by
  intro n
  induction n with
  | zero => intro σ0 s b G xs ps v es x R _ h; exact h.elim
  | succ n ih =>
    intro σ0 s b G xs ps v es x R hn5 h hx hc k0 hG0 hB hP hps hlen hR
    obtain ⟨d, m, t, ns, ks⟩ := x
    have h0 := h
    have hx0 := hx
    obtain ⟨u, w, rfl, h2, h3, h4, h5⟩ := h
    obtain ⟨hm, ht, hl, hns, hks⟩ := hx
    have hcnt : cntT (n + 1) (.mk d m t ns ks) = ks.length + sumBy (cntT n) ks := rfl
    refine ac_impl_Tree_each ?_
    unfold vc_impl_Tree_each
    rw [pVal_5 rfl rfl rfl h4.one h5.one]
    simp only [cellOf_agg, List.getD_cons_zero, List.getD_cons_succ]
    refine ⟨c, [], [.pointer (some ⟨b, 0, none⟩)], rfl, ?_⟩
    refine clo hn5 (mono_rt _ _ _ _ _ k0.le h0) hx0 hc hP.now (by omega) hB (by omega) fun G1 s1 k1 hB1 hG1 => ?_
    rw [h4.len]
    have hl4 := h4.le
    have hG1σ : ∀ i, i ∈ b :: G1 → σ0 i = none := fun i hi => by
      rcases List.mem_cons.1 hi with rfl | hi
      · exact hG0 _ List.mem_cons_self
      · rcases hG1 i hi with h | h
        · exact hG0 i (List.mem_cons_of_mem _ h)
        · exact none_old k0 h
    have hG1' : ∀ i, i ∈ b :: G1 → i ∈ b :: G ∨ s i = none := fun i hi => by
      rcases List.mem_cons.1 hi with rfl | hi
      · exact .inl List.mem_cons_self
      · rcases hG1 i hi with h | h
        · exact .inl (List.mem_cons_of_mem _ h)
        · exact .inr h
    have hP1 := hP.next k1 hG1'
    rw [linT_step] at hR
    refine loop_rule (m := ns.length) (fun q l st => ∃ (j : Nat) (G' : List Nat), q + j = ns.length ∧ KeepsBut (b :: G) s st ∧ Keeps σ0 st ∧ (∀ i, i ∈ b :: G' → i ∈ b :: G ∨ s i = none) ∧
        CB w0 ety O st b G' (xs ++ f (n + 1) ps (.mk d m t ns ks) :: (((ns.zip ks).take j).map fun y => linT f n (ps ++ [y.1]) y.2).flatten) ∧ PathIn w0 st (b :: G') v ps ∧
        l = [v, .func (.func c) ⟨[]⟩ ⟨[.pointer (some ⟨b, 0, none⟩)]⟩, u, .int .i64 (ns.length : Nat), .int .i64 (j : Nat), .bool d, .int .i64 m, .string t, u, w]) ?_
      ⟨0, G1, by omega, k1, k1.old k0 hG0, hG1', by simpa using hB1, hP1, rfl⟩
    rintro q l st L ⟨j, G', hcj, kst, k0st, hG', hB', hP', rfl⟩ hL
    simp only [vget, List.getD_cons_zero, List.getD_cons_succ]
    rw [pBin_lt, pIf_d]
    refine ⟨fun hi => ?_, fun hi => ?_⟩
    · have hx1 := List.getElem?_eq_getElem (show j < ns.length by omega)
      have hx2 := List.getElem?_eq_getElem (show j < ks.length by omega)
      generalize hxi : ns[j]'(by omega) = y1 at hx1
      generalize hxk : ks[j]'(by omega) = y2 at hx2
      have h5y := hns _ (List.mem_of_getElem? hx1)
      have hky := hks _ (List.mem_of_getElem? hx2)
      have hz : (ns.zip ks)[j]? = some (y1, y2) := by rw [List.getElem?_zip_eq_some]; exact ⟨hx1, hx2⟩
      have hcy := sumBy_mem (f := cntT n) (List.mem_of_getElem? hx2)
      refine RSl.at1 (h4.mono k0st.le fun _ _ h => h) hx1 fun g hg hgs => ?_
      have h5b : RSl 5 (RB (RT n) (Av.get w0 σ0)) (Av.get w0 st) w ks := by
        obtain ⟨A, cap, e1, e2, e3⟩ := h5
        refine ⟨A, cap, e1, e2, fun j x hj => ?_⟩
        obtain ⟨a, es, q1, q2, q3, q4⟩ := e3 j x hj
        refine ⟨a, es, q1, q2, fun i hi => ?_, q4⟩
        have := q3 i hi
        rw [List.getElem?_eq_getElem (by omega)] at this ⊢
        exact k0st.le _ _ this
      refine RSl.atp h5b hx2 fun p2 g2 hg2 => ?_
      rw [hg]
      refine below_path hP'.now (by omega) (by omega) fun pv PF s2 k2 op fp => ⟨k2.stay, ?_⟩
      have hB2 := hB'.frame ok k2
      have hG'σ : ∀ i, i ∈ b :: G' → σ0 i = none := fun i hi => by
        rcases hG' i hi with h | h
        · exact hG0 i h
        · exact none_old k0 h
      have hq1 : (((ns.zip ks).take j).map fun y => linT f n (ps ++ [y.1]) y.2).flatten.length + (cntT n y2 + 1) ≤ ks.length + sumBy (cntT n) ks := by
        have q1 : (((ns.zip ks).take j).map fun z => linT f n (ps ++ [z.1]) z.2).flatten.length ≤ sumBy (fun z : ByteArray × Tr => cntT n z.2 + 1) ((ns.zip ks).take j) := flat_sum fun z _ => linT_len f n _ _
        have q2 := sumBy_le (f := fun z : ByteArray × Tr => cntT n z.2 + 1) (xs := ns.zip ks) (j + 1)
        have q4 := sumBy_take (f := fun z : ByteArray × Tr => cntT n z.2 + 1) hz
        have q3 := zip_sum (f := cntT n) (ns := ns) (ks := ks)
        simp only at q4
        omega
      refine ih (by omega) hg2 hky (by omega) (k0st.trans k2) hG'σ hB2 (PathIn.of_own op fun i hi hi' => hB'.dom ok i hi' (fp i hi)) (by rw [List.length_append, sumS_snoc]; simp only [List.length_cons, List.length_nil]; omega)
        (by rw [List.length_append, List.length_cons]; omega) fun G3 s3 k3 hB3 hG3 => ?_
      rw [pBin_add (by omega)]
      have hst : ∀ i, i ∈ G3 → i ∈ G' ∨ st i = none := fun i hi => by
        rcases hG3 i hi with h | h
        · exact .inl h
        · exact .inr (none_old k2 h)
      have k23 : KeepsBut (b :: G') st s3 := fun i r hi hn => k3 i r (k2 i r hi) hn
      have kall : KeepsBut (b :: G) s s3 := fun i r hi hiG => k23 i r (kst i r hi hiG) fun h => by
        rcases hG' i h with h | h
        · exact hiG h
        · rw [hi] at h; cases h
      have hsn : ∀ i, i ∈ b :: G3 → i ∈ b :: G' ∨ st i = none := fun i hi => by
        rcases List.mem_cons.1 hi with rfl | hi
        · exact .inl List.mem_cons_self
        · rcases hst i hi with h | h
          · exact .inl (List.mem_cons_of_mem _ h)
          · exact .inr h
      refine hL _ _ (q - 1) (by omega) ⟨j + 1, G3, by omega, kall, k23.old k0st hG'σ, fun i hi => ?_, ?_, hP'.next k23 hsn, by simp⟩
      · rcases hsn i hi with h | h
        · exact hG' i h
        · by_cases hiG : i ∈ b :: G
          · exact .inl hiG
          · refine .inr ?_
            cases hs : s i with
            | none => rfl
            | some r => rw [kst i r hs hiG] at h; cases h
      · rw [flat_take hz]
        have e : xs ++ f (n + 1) ps (.mk d m t ns ks) :: ((((ns.zip ks).take j).map fun y => linT f n (ps ++ [y.1]) y.2).flatten ++ linT f n (ps ++ [y1]) y2) = (xs ++ f (n + 1) ps (.mk d m t ns ks) :: (((ns.zip ks).take j).map fun y => linT f n (ps ++ [y.1]) y.2).flatten) ++ linT f n (ps ++ [y1]) y2 := by simp
        rw [e]; exact hB3
    · have e : j = ns.length := by omega
      subst e
      rw [List.take_of_length_le (by rw [List.length_zip]; omega)] at hB'
      refine hR G' st kst hB' fun i hi => ?_
      rcases hG' i (List.mem_cons_of_mem _ hi) with h | h
      · rcases List.mem_cons.1 h with h | h
        · exact absurd (h ▸ hi) hB'.2.1
        · exact .inl h
      · exact .inr h
end
end Go.Proofs.YtlbpnfhhoalenaaDoor

/- A box into which one more is put; a row that stays. -/
set_option linter.unusedVariables false
set_option linter.unusedSimpArgs false
namespace Go.Proofs.YtlbpnfhhoalenaaDoor
open Go Go.Av

section
variable {w0 : World} {σ : Vw} {α : Type}

theorem stay_row {s s' : Vw} {b n : Nat} {r : Row} (hb : w0.heap.size ≤ b) (h : s b = some r) (h' : s' b = some r) : Stay w0 s s' (.pointer (some ⟨b, 0, none⟩)) n := fun a g e hc j hj => by
  cases e
  have := hc j hj
  rw [addr_add, get_row hb h] at this
  rw [addr_add, get_row hb h']
  exact this
theorem load_row {s : Vw} {b : Nat} {r : Row} {v : Value} (hb : w0.heap.size ≤ b) (hr : s b = some r) (hc : r.cells = [v]) {K : (Nat → Value) → Prop} (hK : ∀ g : Nat → Value, g 0 = v → K g) : pLoad w0 1 (.pointer (some ⟨b, 0, none⟩)) s K := by
  refine ⟨⟨b, 0, none⟩, fun _ => v, rfl, fun i hi => ?_, hK _ rfl⟩
  have e : i = 0 := by omega
  subst e
  rw [addr_add, get_row hb hr, hc]; rfl

theorem box_push {ety b e2 : Nat} {Rel : (Addr → Option Value) → List Value → α → Prop} {O : Vw → List Nat → List Value → α → Prop} (ok : OOk w0 5 Rel O) {s : Vw} {G P : List Nat} {v : Value} {es : List Value} {xs : List α} {y : α}
    (hb : w0.heap.size ≤ b) (hbG : b ∉ G) (hr : s b = some ⟨e2, [v], 1, (0, 0)⟩) (ho : OAcc w0 ety 5 O s G v xs) (hy : O s P es y) (hP : ∀ i, i ∈ P → i ∉ b :: G) (hl : xs.length ≤ 1000000) {R : Value → Vw → Prop}
    (hR : ∀ G' s', KeepsBut (b :: G) s s' → CB w0 ety O s' b G' (xs ++ [y]) → (∀ i, i ∈ G' → i ∈ G ∨ i ∈ P ∨ s i = none) → R (.tuple ⟨[]⟩) s') :
    allOne es ∧ pAppend w0 ety 5 64 v 1 es s (fun v7 s8 => pVal false 1 v7 (pStore (.pointer (some ⟨b, 0, none⟩)) [v7] s8 (fun s9 => R (.tuple ⟨[]⟩) s9))) := by
  refine ho.one ok hy (fun i hi hi' => hP i hi (List.mem_cons_of_mem _ hi')) (by omega) (by omega) fun v' F' s8 k8 o8 f8 => ?_
  have hr8 := k8 b _ hr hbG
  have hbF : b ∉ F' := fun h => by
    rcases f8 b h with h | h | h
    · exact hbG h
    · exact hP b h List.mem_cons_self
    · rw [hr] at h; cases h
  refine elem_store (A := []) (C := []) (x := v) hr8 rfl rfl (OSl.one' o8.osl) ?_
  simp only [List.nil_append, List.append_nil]
  have kk : KeepsBut (b :: G) s (s8.put b ⟨e2, [v'], 1, (0, 0)⟩) := fun i r hi hn => by
    have h1 : i ≠ b := fun e => hn (e ▸ List.mem_cons_self)
    rw [put_ne h1]
    exact k8 i r hi fun h => hn (List.mem_cons_of_mem _ h)
  refine hR F' _ kk ⟨hb, hbF, v', e2, put_at, o8.frame ok fun i hi => put_ne fun e => hbF (e ▸ hi)⟩ f8

/-- A new box that holds no elements. -/
theorem box_new {ety e2 : Nat} {O : Vw → List Nat → List Value → α → Prop} {R : Nat → Vw → Prop} (hR : ∀ b b0 s', Keeps σ s' → CB w0 ety O s' b [b0] [] → σ b = none → σ b0 = none → R b s') :
    pNew w0 ety [] σ (fun n0 s1 => pNew w0 e2 [.slice none 0 0] s1 (fun n2 s3 => pVal false 1 (.slice (some (Addr.mk n0 0 none)) 0 0) (pStore (.pointer (some (Addr.mk n2 0 none))) [.slice (some (Addr.mk n0 0 none)) 0 0] s3 (fun s4 => R n2 s4)))) := by
  intro b0 h1 h2 b h3 h4
  refine elem_store (A := []) (C := []) (x := .slice none 0 0) put_at rfl rfl rfl ?_
  simp only [List.nil_append, List.append_nil]
  rw [put_put]
  have k0 : Keeps σ (σ.put b0 ⟨ety, [], 0, (0, 0)⟩) := Keeps.put h2
  have k1 : Keeps (σ.put b0 ⟨ety, [], 0, (0, 0)⟩) ((σ.put b0 ⟨ety, [], 0, (0, 0)⟩).put b ⟨e2, [.slice (some ⟨b0, 0, none⟩) 0 0], 1, (0, 0)⟩) := Keeps.put h4
  have hne : b ≠ b0 := fun e => by rw [e] at h4; simp [Vw.put] at h4
  have o0 : OAcc w0 ety 5 O (σ.put b0 ⟨ety, [], 0, (0, 0)⟩) [b0] (.slice (some ⟨b0, 0, none⟩) 0 0) [] := OAcc.new h1
  refine hR b b0 _ (k0.trans k1) ⟨h3, fun h => hne (List.mem_singleton.1 h), _, e2, put_at, ?_⟩ (none_old k0 h4) h2
  refine ⟨by simp, by simp, .inr ⟨b0, 0, [], [], rfl, by simp, h1, ?_, rfl, rfl, rfl, fun j c x f h => by simp at h⟩⟩
  rw [put_ne (Ne.symm hne), put_at]; simp
theorem box_read {ety b : Nat} {O : Vw → List Nat → List Value → α → Prop} {s : Vw} {G : List Nat} {xs : List α} (h : CB w0 ety O s b G xs) {K : Value → Prop} (hK : ∀ v, OAcc w0 ety 5 O s G v xs → K v) : pLoad w0 1 (.pointer (some (Addr.mk b 0 none))) s (fun g => K (g 0)) := by
  obtain ⟨h1, h2, v, e2, h3, h4⟩ := h
  refine load_row h1 h3 rfl fun g hg => ?_
  rw [hg]; exact hK v h4
theorem nil_in {s : Vw} {G : List Nat} : PathIn w0 s G (.slice none 0 0) [] := fun s' _ => ⟨none, 0, rfl, by simp, fun j x h => by simp at h⟩
end
theorem sumBy_bound {α : Type} {f : α → Nat} {c : Nat} : ∀ {xs : List α}, (∀ x, x ∈ xs → f x ≤ c) → sumBy f xs ≤ c * xs.length
  | [], _ => by simp [sumBy]
  | a :: r, h => by
    have h1 := h a (by simp)
    have h2 := sumBy_bound (xs := r) fun x hx => h x (by simp [hx])
    simp only [sumBy, List.length_cons, Nat.mul_add, Nat.mul_one]; omega
theorem lin_mem {α : Type} {f : Nat → List ByteArray → Tr → α} {y : α} : ∀ (n : Nat) (ps : List ByteArray) (x : Tr), y ∈ linT f n ps x → ∃ m qs z, y = f m qs z ∧ qs.length ≤ ps.length + n ∧ m ≤ n
  | 0, _, _, h => by simp [linT] at h
  | n + 1, ps, .mk d m t ns ks, h => by
    rw [linT_step] at h
    rcases List.mem_cons.1 h with h | h
    · exact ⟨_, _, _, h, by omega, Nat.le_refl _⟩
    · obtain ⟨l, hl, hy⟩ := List.mem_flatten.1 h
      obtain ⟨z, hz, rfl⟩ := List.mem_map.1 hl
      obtain ⟨k, qs, w, e, hq, hk⟩ := lin_mem n _ _ hy
      exact ⟨k, qs, w, e, by rw [List.length_append] at hq; simp at hq; omega, by omega⟩
end Go.Proofs.YtlbpnfhhoalenaaDoor

/- strings.Builder's WriteString and copyCheck in this program: what the library's contracts ask of it. -/
namespace Go.Proofs
def Tryd.laysB_ren : Go.Shelf.Ren := ⟨fun | 165 => 135 | 240 => 94 | 241 => 151 | 276 => 120 | 277 => 162 | 166 => 52 | n => n, fun | 70 => 72 | 3 => 3 | 0 => 0 | 4 => 4 | 9 => 9 | 20 => 20 | 72 => 75 | 37 => 73 | 164 => 122 | 5 => 5 | 75 => 77 | 80 => 62 | n => n, fun | n => n⟩
theorem Tryd.laysB240 : Go.Proofs.Lays.n240 Tryd.prog Tryd.laysB_ren := {
  mixed := by kernel_rfl
  f240 := Tryd.func94.trans (congrArg some (by kernel_rfl))
  f276 := Tryd.func120.trans (congrArg some (by kernel_rfl))
  t0 := Tryd.underlying0
  a0 := Tryd.isAgg0
  z0 := Tryd.sizeOf0
  v0 := Tryd.zeroValue0
  t4 := Tryd.underlying4
  a4 := Tryd.isAgg4
  z4 := Tryd.sizeOf4
  v4 := Tryd.zeroValue4
  t9 := Tryd.underlying9
  a9 := Tryd.isAgg9
  z9 := Tryd.sizeOf9
  v9 := Tryd.zeroValue9
  t20 := Tryd.underlying20
  a20 := Tryd.isAgg20
  z20 := Tryd.sizeOf20
  v20 := Tryd.zeroValue20
  t70 := Tryd.underlying72
  a70 := Tryd.isAgg72
  z70 := Tryd.sizeOf72
  v70 := Tryd.zeroValue72
  t72 := Tryd.underlying75
  a72 := Tryd.isAgg75
  z72 := Tryd.sizeOf75
  v72 := Tryd.zeroValue75
  t164 := Tryd.underlying122
  a164 := Tryd.isAgg122
  z164 := Tryd.sizeOf122
  v164 := Tryd.zeroValue122 }
theorem Tryd.laysB166 : Go.Proofs.Lays.n166 Tryd.prog Tryd.laysB_ren := {
  mixed := by kernel_rfl
  f166 := Tryd.func52.trans (congrArg some (by kernel_rfl))
  f240 := Tryd.func94.trans (congrArg some (by kernel_rfl))
  f276 := Tryd.func120.trans (congrArg some (by kernel_rfl))
  t0 := Tryd.underlying0
  a0 := Tryd.isAgg0
  z0 := Tryd.sizeOf0
  v0 := Tryd.zeroValue0
  t3 := Tryd.underlying3
  a3 := Tryd.isAgg3
  z3 := Tryd.sizeOf3
  v3 := Tryd.zeroValue3
  t4 := Tryd.underlying4
  a4 := Tryd.isAgg4
  z4 := Tryd.sizeOf4
  v4 := Tryd.zeroValue4
  t9 := Tryd.underlying9
  a9 := Tryd.isAgg9
  z9 := Tryd.sizeOf9
  v9 := Tryd.zeroValue9
  t20 := Tryd.underlying20
  a20 := Tryd.isAgg20
  z20 := Tryd.sizeOf20
  v20 := Tryd.zeroValue20
  t37 := Tryd.underlying73
  a37 := Tryd.isAgg73
  z37 := Tryd.sizeOf73
  v37 := Tryd.zeroValue73
  t70 := Tryd.underlying72
  a70 := Tryd.isAgg72
  z70 := Tryd.sizeOf72
  v70 := Tryd.zeroValue72
  t72 := Tryd.underlying75
  a72 := Tryd.isAgg75
  z72 := Tryd.sizeOf75
  v72 := Tryd.zeroValue75
  t75 := Tryd.underlying77
  a75 := Tryd.isAgg77
  z75 := Tryd.sizeOf77
  v75 := Tryd.zeroValue77
  t164 := Tryd.underlying122
  a164 := Tryd.isAgg122
  z164 := Tryd.sizeOf122
  v164 := Tryd.zeroValue122 }
theorem Tryd.laysB_extra : Builder.Extra Tryd.prog Tryd.laysB_ren := {
  sizeBuilder := by kernel_rfl
  liesBuilder := by kernel_rfl
  t5 := Tryd.underlying5
  a5 := Tryd.isAgg5
  z5 := Tryd.sizeOf5
  v5 := Tryd.zeroValue5
  infoByte := by kernel_rfl
  cellsByte := by kernel_rfl
  sizeByte := by kernel_rfl
  neB5 := by decide }
end Go.Proofs

/- strings.Builder: a text is written, and all but the builder and its row stands as it stood. -/
set_option linter.unusedVariables false
set_option linter.unusedSimpArgs false
namespace Go.Proofs
open Go.Shelf Go.RowKit

/-- What a write leaves: every block but the builder's and its row's. -/
def Rest (b : Nat) (row : Option Nat) (w w' : World) : Prop := ∀ k, k < w.heap.size → k ≠ b → row ≠ some k → w'.heap[k]? = w.heap[k]?

/-- Where what is appended to a list of bytes lies: in its row, or in a new one. -/
theorem append_place {P : Program} (w : World) (base : Nat) (t u ty e : TypeId) (i : TypeInfo) (ht : P.underlying t = some (.slice e)) (hu : P.underlying u = some .string) (hi : P.info? e = some i) (hz : i.zero = some (.int .u8 0))
    (hsize : i.size = 1) (hby : i.bytes = 1) (v : Value) (n : Nat) (xs : List Value) (hown : w.ownsRow base e 1 v n xs) (s : ByteArray)
    (h63 : n + s.size ≤ maxLen) (hbytes : n + s.size ≤ 140737488355328) (hbase : base ≤ w.heap.size) :
    ∃ v' w', (Builtin.append_ #[t, u] ty #[v, .string s]).run P w = .ok v' w' ∧ w'.ownsRow base e 1 v' (n + s.size) (xs ++ Lib.strCells s) ∧ w.grownBy w' v.ownBlock ∧
      (v'.ownBlock = v.ownBlock ∨ ∀ g, v'.ownBlock = some g → w.heap.size ≤ g) := by
  obtain ⟨v', w', hr, h2, h3, _⟩ := Lib.run_append_own_string (P := P) w base t u ty e i ht hu hi hz hsize hby v n xs hown s h63 hbytes hbase
  refine ⟨v', w', hr, h2, h3, ?_⟩
  have hxl : xs.length = n := by simpa using hown.1
  rcases hown.2 with ⟨rfl, rfl⟩ | ⟨g, cap, cur, rfl, hbg, hg, hnc, hcm, hcs, htake⟩
  · have hown2 : w.ownsRow w.heap.size e 1 (.slice none 0 0) 0 xs := ⟨by simpa using hxl, .inl ⟨rfl, rfl⟩⟩
    obtain ⟨v2, w2, hr2, q2, _, _⟩ := Lib.run_append_own_string (P := P) w w.heap.size t u ty e i ht hu hi hz hsize hby (.slice none 0 0) 0 xs hown2 s h63 hbytes (Nat.le_refl _)
    have e2 := hr.symm.trans hr2
    cases e2
    refine .inr fun g hg => ?_
    rcases q2.2 with ⟨rfl, _⟩ | ⟨g', cap, cur, rfl, hbg, _⟩
    · cases hg
    · cases hg; exact hbg
  · by_cases hroom : n + s.size ≤ cap
    · have hr2 := Lib.run_append_room_string (P := P) w t u ty e i ht hu hi hsize g n cap cur hg s hroom (by omega)
      have e2 := hr.symm.trans hr2
      cases e2
      exact .inl rfl
    · have holds : ∀ j u, xs[j]? = some u → w.cell? ((⟨g, 0, none⟩ : Addr).add j) = some u := hown.cells (g := g) rfl
      have hr2 := Lib.run_append_grow_string (P := P) w t u ty e i (.int .u8 0) ht hu hi hz ⟨g, 0, none⟩ n cap xs (by rw [hsize]; simpa using hxl) holds s (by omega) (by simp only [maxLen] at h63; omega) (by rw [hby]; exact growslice_fits (by omega) (by omega))
      have e2 := hr.symm.trans hr2
      cases e2
      refine .inr fun g hg => ?_
      cases hg; exact Nat.le_refl _
theorem wp_append_place {P : Program} {w : World} {ops : Array Oper} {rest : List Oper} {o : Oper} {a : Act} {Q : Exit → Act → World → Prop} (hgd : o.guard = none) (sl x : Operand) (t u : TypeId)
    (ho : o.op = .call { callee := .builtin .append, args := #[sl, x], argTypes := #[t, u] })
    (base : Nat) (e : TypeId) (i : TypeInfo) (ht : P.underlying t = some (.slice e)) (hu : P.underlying u = some .string) (hi : P.info? e = some i) (hz : i.zero = some (.int .u8 0))
    (hsize : i.size = 1) (hby : i.bytes = 1) (v : Value) (n : Nat) (xs : List Value) (hs : a.eval sl = v) (hown : w.ownsRow base e 1 v n xs) (s : ByteArray) (hx : a.eval x = .string s)
    (h63 : n + s.size ≤ maxLen) (hbytes : n + s.size ≤ 140737488355328) (hbase : base ≤ w.heap.size)
    (h : ∀ v' w', w'.ownsRow base e 1 v' (n + s.size) (xs ++ Lib.strCells s) → w.grownBy w' v.ownBlock → (v'.ownBlock = v.ownBlock ∨ ∀ g, v'.ownBlock = some g → w.heap.size ≤ g) → wpList P ops Q rest (a.put o.dst v') w') : wpList P ops Q (o :: rest) a w := by
  refine wpList_plain hgd fun K hK => ?_
  obtain ⟨v', w', hr, h2, h3, h4⟩ := append_place (P := P) w base t u o.type e i ht hu hi hz hsize hby v n xs hown s h63 hbytes hbase
  unfold Oper.wp execOp
  simp only [ho, resolve, invoke, builtin, Sem.run_bind, Sem.run_pure, Result.andThen_ok, List.map_toArray, List.map_cons, List.map_nil, hs, hx, hr]
  exact hK _ _ (h v' w' h2 h3 h4)

set_option maxHeartbeats 4000000 in
set_option maxRecDepth 100000 in
theorem Tryd.check_exact (B b : Nat) (p v : Value) (bs : List Value) (w : World) (hp : p = .pointer none ∨ p = .pointer (some ⟨b, 0, none⟩)) (hB : B ≤ b) (hbk : w.heap[b]? = some (.cells #[p, v] (Tryd.laysB_ren.t 72) (0, 0))) (hown : w.ownsRow B (Tryd.laysB_ren.t 5) 1 v bs.length bs) (hne : v.ownBlock ≠ some b) :
    Calls Tryd.prog (Tryd.laysB_ren.f 240) #[.pointer (some ⟨b, 0, none⟩)] w fun e w1 => e = .returned (.tuple #[]) ∧
      w1.heap[b]? = some (.cells #[.pointer (some ⟨b, 0, none⟩), v] (Tryd.laysB_ren.t 72) (0, 0)) ∧ w1.ownsRow B (Tryd.laysB_ren.t 5) 1 v bs.length bs ∧ (∀ k, k ≠ b → w1.heap[k]? = w.heap[k]?) ∧ w1.heap.size = w.heap.size ∧ Below B w w1 := by
  have h0 : w.cell? ⟨b, 0, none⟩ = some p := by rw [Lib.cell_of_heap hbk]; rfl
  rcases hp with rfl | rfl
  · have hAt : Lib.BuilderAt (Tryd.laysB_ren.t 72) (Tryd.laysB_ren.t 5) B b (.pointer none) bs w := ⟨hB, v, hbk, hown, hne⟩
    refine (Any.Builder_copyCheck_fresh Tryd.laysB240 Tryd.laysB_extra.toX72 b w hAt.cell0 hAt.shape hAt.frozen0).mono ?_
    rintro e w1 ⟨rfl, rfl⟩
    have hk : ∀ k, k ≠ b → (w.setCell ⟨b, 0, none⟩ (.pointer (some ⟨b, 0, none⟩))).heap[k]? = w.heap[k]? := fun k hk => by
      have hk' : b ≠ k := fun e => hk e.symm
      simp [World.setCell, Array.getElem?_modify, hk']
    have hb1 : (w.setCell ⟨b, 0, none⟩ (.pointer (some ⟨b, 0, none⟩))).heap[b]? = some (.cells #[.pointer (some ⟨b, 0, none⟩), v] (Tryd.laysB_ren.t 72) (0, 0)) := by
      simp [World.setCell, Array.getElem?_modify, hbk]
    refine ⟨rfl, hb1, ?_, hk, by simp [World.setCell], (Below.refl B w).setCell (p := ⟨b, 0, none⟩) hB _⟩
    obtain ⟨g1, g2⟩ := hown
    refine ⟨g1, ?_⟩
    rcases g2 with g2 | ⟨g, cap, cur, rfl, q1, q2, q3⟩
    · exact .inl g2
    · refine .inr ⟨g, cap, cur, rfl, q1, ?_, q3⟩
      rw [hk g (fun e => hne (by rw [← e]; rfl))]; exact q2
  · refine (Any.Builder_copyCheck_used Tryd.laysB240 Tryd.laysB_extra.toX72 b w h0).mono ?_
    rintro e w1 ⟨rfl, rfl⟩
    exact ⟨rfl, hbk, hown, fun _ _ => rfl, rfl, Below.refl _ _⟩

set_option maxHeartbeats 4000000 in
set_option maxRecDepth 100000 in
theorem Tryd.write_exact (B b : Nat) (p v : Value) (bs : List Value) (s : ByteArray) (w : World) (hp : p = .pointer none ∨ p = .pointer (some ⟨b, 0, none⟩)) (hB : B ≤ b) (hbk : w.heap[b]? = some (.cells #[p, v] (Tryd.laysB_ren.t 72) (0, 0))) (hown : w.ownsRow B (Tryd.laysB_ren.t 5) 1 v bs.length bs) (hne : v.ownBlock ≠ some b) (hlen : bs.length + s.size ≤ 140737488355328) (hBw : B ≤ w.heap.size) :
    Calls Tryd.prog (Tryd.laysB_ren.f 166) #[.pointer (some ⟨b, 0, none⟩), .string s] w fun e w' => e = .returned (.tuple #[.int .i64 s.size, .nilIface]) ∧
      ∃ v', w'.heap[b]? = some (.cells #[.pointer (some ⟨b, 0, none⟩), v'] (Tryd.laysB_ren.t 72) (0, 0)) ∧ w'.ownsRow B (Tryd.laysB_ren.t 5) 1 v' (bs ++ Lib.strCells s).length (bs ++ Lib.strCells s) ∧ v'.ownBlock ≠ some b ∧ (v'.ownBlock = v.ownBlock ∨ ∀ g, v'.ownBlock = some g → w.heap.size ≤ g) ∧ Rest b v.ownBlock w w' ∧ Below B w w' ∧ w.heap.size ≤ w'.heap.size := by
  have L := Tryd.laysB166
  have X := Tryd.laysB_extra
  obtain ⟨i0, hi, hz0, hz1, hz2⟩ := info_parts X.infoByte
  have mixed := L.mixed
  have u72 := run_underlying L.t72; have u70 := run_underlying L.t70; have u37 := run_underlying L.t37; have u3 := run_underlying L.t3
  have u9 := run_underlying L.t9; have u4 := run_underlying L.t4; have u164 := run_underlying L.t164; have u5 := run_underlying X.t5
  have a72 := L.a72; have z72 := L.z72; have v72 := L.v72; have t72 := L.t72
  have a70 := L.a70; have z70 := L.z70; have v70 := L.v70; have t70 := L.t70
  have a37 := L.a37; have z37 := L.z37; have v37 := L.v37; have t37 := L.t37
  have a3 := L.a3; have z3 := L.z3; have v3 := L.v3; have t3 := L.t3
  have a9 := L.a9; have z9 := L.z9; have v9 := L.v9; have t9 := L.t9
  have a5 := X.a5; have z5 := X.z5; have v5 := X.v5; have t5 := X.t5
  have e240 : ∀ args w, (callFunc (Tryd.laysB_ren.f 240) args).run Tryd.prog w = .ok (.enter (Tryd.laysB_ren.f 240) args) w := enters_of L.f240 (by kernel_rfl) rfl
  go_enter L.f166, Body.n166_ntmps Tryd.laysB_ren
  go_wp2_with (go_at_fn (Tryd.laysB_ren.f 240); refine (Tryd.check_exact B b p v bs _ hp hB hbk hown hne).mono ?_)
  rintro e w1 ⟨rfl, hbk1, hown1, hk1, hs1, hb1⟩
  have c0 : w1.cell? ⟨b, 0, none⟩ = some (.pointer (some ⟨b, 0, none⟩)) := by rw [Lib.cell_of_heap hbk1]; rfl
  have c1 : w1.cell? ⟨b, 1, none⟩ = some v := by rw [Lib.cell_of_heap hbk1]; rfl
  go_wp2_with (at_builtin; refine wp_append_place rfl _ _ (Tryd.laysB_ren.t 37) (Tryd.laysB_ren.t 9) rfl B (Tryd.laysB_ren.t 5) i0 L.t37 L.t9 hi hz0 hz1 hz2 _ _ _ rfl hown1 s rfl ?c3 ?c4 ?c5 ?_)
  case c3 => unfold maxLen; omega
  case c4 => omega
  case c5 => omega
  intro v' w2 hown' hgrow hplace
  have hlt : b < w1.heap.size := by
    rcases Nat.lt_or_ge b w1.heap.size with h' | h'
    · exact h'
    · simp [Array.getElem?_eq_none h'] at hbk1
  have hb2 : w2.heap[b]? = some (.cells #[.pointer (some ⟨b, 0, none⟩), v] (Tryd.laysB_ren.t 72) (0, 0)) := by
    rw [hgrow.block b hlt (fun e => hne e.symm)]; exact hbk1
  have d0 : w2.cell? ⟨b, 0, none⟩ = some (.pointer (some ⟨b, 0, none⟩)) := by rw [Lib.cell_of_heap hb2]; rfl
  have d1 : w2.cell? ⟨b, 1, none⟩ = some v := by rw [Lib.cell_of_heap hb2]; rfl
  have f1 : w2.frozen? ⟨b, 1, none⟩ = false := Lib.frozen_of_heap hb2 1
  have hne' : v'.ownBlock ≠ some b := by
    rcases hplace with h | h
    · rw [h]; exact hne
    · intro e
      have := h b e
      omega
  obtain ⟨ao, n', cap, rfl⟩ : ∃ ao n' cap, v' = .slice ao n' cap := by
    rcases hown'.2 with ⟨hv, _⟩ | ⟨g, cap, cur, hv, _⟩
    · exact ⟨_, _, _, hv⟩
    · exact ⟨_, _, _, hv⟩
  go_wp2
  go_ret2
  have hput := Lib.BuilderAt.put (T := (Tryd.laysB_ren.t 72)) (e := (Tryd.laysB_ren.t 5)) hB hb2 (bs' := bs ++ Lib.strCells s) (by simpa [Lib.strCells_length] using hown') X.neB5
  obtain ⟨_, v2, hv2, hown2, hne2⟩ := hput
  have hv3 : (w2.setCell ⟨b, 1, none⟩ (.slice ao n' cap)).heap[b]? = some (.cells #[.pointer (some ⟨b, 0, none⟩), .slice ao n' cap] (Tryd.laysB_ren.t 72) (0, 0)) := by
    simp [World.setCell, Array.getElem?_modify, hb2]
  rw [hv3] at hv2
  have e3 : (.slice ao n' cap : Value) = v2 := by simp at hv2; exact hv2
  subst e3
  refine ⟨rfl, _, hv3, hown2, hne', ?_, fun k hk hkb hrow => ?_, ?_, ?_⟩
  · exact hplace
  · have hkb' : b ≠ k := fun e => hkb e.symm
    have e4 : (w2.setCell ⟨b, 1, none⟩ (.slice ao n' cap)).heap[k]? = w2.heap[k]? := by simp [World.setCell, Array.getElem?_modify, hkb']
    rw [e4, hgrow.block k (by omega) (fun e => hrow e.symm), hk1 k hkb]
  · exact (hb1.grown hgrow (by omega) (fun k hk => (hown1.lt k hk).1)).setCell (p := ⟨b, 1, none⟩) hB _
  · have := hgrow.size
    have e5 : (w2.setCell ⟨b, 1, none⟩ (.slice ao n' cap)).heap.size = w2.heap.size := by simp [World.setCell]
    omega
end Go.Proofs

/- strings.Builder in a view: a text is written. -/
set_option linter.unusedVariables false
set_option linter.unusedSimpArgs false
namespace Go.Proofs.YtlbpnfhhoalenaaDoor
open Go Go.Av Go.RowKit

/-- A builder in rows of our own, and the bytes that it holds. -/
def BV (w0 : World) (σ : Vw) (b : Nat) (F : List Nat) (bs : List Value) : Prop :=
  w0.heap.size ≤ b ∧ ∃ p v, (p = .pointer none ∨ p = .pointer (some ⟨b, 0, none⟩)) ∧ σ b = some ⟨Tryd.laysB_ren.t 72, [p, v], 2, (0, 0)⟩ ∧
    ((v = .slice none 0 0 ∧ bs = [] ∧ F = [b]) ∨ ∃ q cap, v = .slice (some ⟨q, 0, none⟩) bs.length cap ∧ w0.heap.size ≤ q ∧ q ≠ b ∧ σ q = some ⟨Tryd.laysB_ren.t 5, bs, cap, (0, 0)⟩ ∧ bs.length ≤ cap ∧ cap ≤ maxLen ∧ F = [b, q])

section
variable {w0 : World} {σ : Vw}

theorem BV.new {b : Nat} (hb : w0.heap.size ≤ b) : BV w0 (σ.put b ⟨Tryd.laysB_ren.t 72, [.pointer none, .slice none 0 0], 2, (0, 0)⟩) b [b] [] :=
  ⟨hb, _, _, .inl rfl, put_at, .inl ⟨rfl, rfl, rfl⟩⟩
theorem BV.frame {σ' : Vw} {b : Nat} {F : List Nat} {bs : List Value} (h : BV w0 σ b F bs) (hF : ∀ i, i ∈ F → σ' i = σ i) : BV w0 σ' b F bs := by
  obtain ⟨hb, p, v, hp, hr, ⟨rfl, rfl, rfl⟩ | ⟨q, cap, rfl, h1, h2, h3, h4, h5, rfl⟩⟩ := h
  · exact ⟨hb, p, _, hp, (hF b (by simp)).trans hr, .inl ⟨rfl, rfl, rfl⟩⟩
  · exact ⟨hb, p, _, hp, (hF b (by simp)).trans hr, .inr ⟨q, cap, rfl, h1, h2, (hF q (by simp)).trans h3, h4, h5, rfl⟩⟩
theorem BV.dom {b : Nat} {F : List Nat} {bs : List Value} (h : BV w0 σ b F bs) : ∀ i, i ∈ F → w0.heap.size ≤ i ∧ σ i ≠ none := by
  obtain ⟨hb, p, v, hp, hr, ⟨rfl, rfl, rfl⟩ | ⟨q, cap, rfl, h1, h2, h3, h4, h5, rfl⟩⟩ := h
  · intro i hi; rw [List.mem_singleton.1 hi]; exact ⟨hb, by rw [hr]; simp⟩
  · intro i hi
    simp at hi
    rcases hi with rfl | rfl
    · exact ⟨hb, by rw [hr]; simp⟩
    · exact ⟨h1, by rw [h3]; simp⟩

theorem write_view {b : Nat} {F : List Nat} {bs : List Value} {s : ByteArray} (h : BV w0 σ b F bs) (hlen : bs.length + s.size ≤ 140737488355328) {R : Value → Vw → Prop}
    (hR : ∀ F' σ', KeepsBut F σ σ' → BV w0 σ' b F' (bs ++ Lib.strCells s) → (∀ i, i ∈ F' → i ∈ F ∨ σ i = none) → R (.tuple ⟨[.int .i64 s.size, .nilIface]⟩) σ') :
    AC Tryd.prog w0 n_p_strings_Builder_WriteString [.pointer (some ⟨b, 0, none⟩), .string s] σ R := by
  refine ⟨is_p_strings_Builder_WriteString, fun w hw => ?_⟩
  obtain ⟨hb, p, v, hp, hr, hv⟩ := h
  have hbk : w.heap[b]? = some (.cells #[p, v] (Tryd.laysB_ren.t 72) (0, 0)) := by
    obtain ⟨_, cur, hc, hpre, hcap, _⟩ := hw.row b _ hr
    simp only at hc hpre hcap
    have hl : cur.toList = [p, v] := by
      obtain ⟨t, ht⟩ := hpre
      have := congrArg List.length ht
      simp only [List.length_append, List.length_cons, List.length_nil, Array.length_toList, hcap] at this
      have ht0 : t = [] := List.eq_nil_of_length_eq_zero (by omega)
      rw [ht0] at ht
      simpa using ht.symm
    have hc2 : cur = #[p, v] := by apply Array.ext'; simpa using hl
    rw [← hc2]; exact hc
  have hown : w.ownsRow w0.heap.size (Tryd.laysB_ren.t 5) 1 v bs.length bs ∧ v.ownBlock ≠ some b ∧ (∀ i, v.ownBlock = some i → i ∈ F) ∧ b ∈ F := by
    rcases hv with ⟨rfl, rfl, rfl⟩ | ⟨q, cap, rfl, h1, h2, h3, h4, h5, rfl⟩
    · exact ⟨⟨rfl, .inl ⟨rfl, rfl⟩⟩, nofun, nofun, by simp⟩
    · obtain ⟨_, cur, hc, hpre, hcap, _⟩ := hw.row q _ h3
      simp only at hc hpre hcap
      refine ⟨⟨by simp, .inr ⟨q, cap, cur, rfl, h1, hc, h4, h5, by omega, ?_⟩⟩, fun e => h2 (by cases e; rfl), fun i e => by cases e; simp, by simp⟩
      have := List.prefix_iff_eq_take.1 hpre
      rw [Nat.mul_one]; exact this.symm
  obtain ⟨hown, hne, hin, hbF⟩ := hown
  refine (Tryd.write_exact w0.heap.size b p v bs s w hp hb hbk hown hne hlen hw.bel.size).mono ?_
  rintro e w' ⟨rfl, v', hbk', hown', hne', hplace, hrest, hbel, hsize⟩
  have hlt : b < w.heap.size := hw.lt hr
  -- the new view
  obtain ⟨hl', hv'⟩ := hown'
  have key : ∀ (σ' : Vw) (F' : List Nat), σ' b = some ⟨Tryd.laysB_ren.t 72, [.pointer (some ⟨b, 0, none⟩), v'], 2, (0, 0)⟩ → BV w0 σ' b F' (bs ++ Lib.strCells s) →
      (∀ i, i ≠ b → v'.ownBlock ≠ some i → σ' i = if v.ownBlock = some i then none else σ i) → (∀ g, v'.ownBlock = some g → ∃ cap cur, σ' g = some ⟨Tryd.laysB_ren.t 5, bs ++ Lib.strCells s, cap, (0, 0)⟩ ∧ w0.heap.size ≤ g ∧ w'.heap[g]? = some (.cells cur (Tryd.laysB_ren.t 5) (0, 0)) ∧ cur.size = cap ∧ (bs ++ Lib.strCells s) <+: cur.toList) →
      (∀ i, i ∈ F' → i = b ∨ v'.ownBlock = some i) → ∃ v σ', (Ending.returned (.tuple #[.int .i64 s.size, .nilIface])) = .returned v ∧ R v σ' ∧ Aft w0 σ w σ' w' := by
    intro σ' F' hσb hBV hσo hσg hF'
    have hgF : ∀ i, v'.ownBlock = some i → i ∈ F ∨ w.heap.size ≤ i := fun i hi => by
      rcases hplace with h | h
      · exact .inl (hin i (by rw [← h]; exact hi))
      · exact .inr (h i hi)
    have hnone : ∀ i, w.heap.size ≤ i → σ i = none := fun i hi => by
      cases hs : σ i with
      | none => rfl
      | some r => exact absurd (hw.lt hs) (by omega)
    refine ⟨_, σ', rfl, hR F' σ' (fun i r hi hiF => ?_) hBV (fun i hi => ?_), ⟨⟨hw.bel.trans hbel, fun i r hi => ?_⟩, hsize, fun i hi hn => ?_, fun i r hi => ?_⟩⟩
    · have h1 : i ≠ b := fun e => hiF (e ▸ hbF)
      have h2 : v'.ownBlock ≠ some i := fun e => by
        rcases hgF i e with h | h
        · exact hiF h
        · rw [hnone i h] at hi; cases hi
      rw [hσo i h1 h2, if_neg (fun e => hiF (hin i e))]; exact hi
    · rcases hF' i hi with rfl | h
      · exact .inl hbF
      · rcases hgF i h with h | h
        · exact .inl h
        · exact .inr (hnone i h)
    · by_cases h1 : i = b
      · subst h1
        rw [hσb] at hi; cases hi
        exact ⟨hb, _, hbk', by simp, by simp, by simp⟩
      · by_cases h2 : v'.ownBlock = some i
        · obtain ⟨cap, cur, q1, q2, q3, q4, q5⟩ := hσg i h2
          rw [q1] at hi; cases hi
          exact ⟨q2, cur, q3, q5, q4, by simp⟩
        · rw [hσo i h1 h2] at hi
          split at hi
          · cases hi
          · rename_i h3
            obtain ⟨g1, cur, g2, g3⟩ := hw.row i r hi
            exact ⟨g1, cur, (hrest i (hw.lt hi) h1 h3).trans g2, g3⟩
    · have h1 : i ≠ b := fun e => by rw [e, hr] at hn; cases hn
      refine hrest i hi h1 fun e => ?_
      rcases hv with ⟨rfl, _⟩ | ⟨q, cap, rfl, _, _, h3, _⟩
      · cases e
      · cases e; rw [h3] at hn; cases hn
    · by_cases h1 : i = b
      · exact .inl (by rw [h1, hr]; simp)
      · by_cases h2 : v'.ownBlock = some i
        · rcases hgF i h2 with h | h
          · refine .inl ?_
            rcases hv with ⟨rfl, _, rfl⟩ | ⟨q, cap, rfl, _, _, h3, _, _, rfl⟩
            · exact absurd (List.mem_singleton.1 h) h1
            · simp at h
              rcases h with h | h
              · exact absurd h h1
              · rw [h, h3]; simp
          · exact .inr h
        · rw [hσo i h1 h2] at hi
          split at hi
          · cases hi
          · exact .inl (by rw [hi]; simp)
  rcases hv' with ⟨rfl, hn⟩ | ⟨g, cap, cur, rfl, q1, q2, q3, q4, q5, q6⟩
  · have hz : bs ++ Lib.strCells s = [] := List.eq_nil_of_length_eq_zero (by omega)
    refine key (fun i => if i = b then some ⟨Tryd.laysB_ren.t 72, [.pointer (some ⟨b, 0, none⟩), .slice none 0 0], 2, (0, 0)⟩ else if v.ownBlock = some i then none else σ i) [b] (by simp) ?_ (fun i h1 _ => by simp [h1]) nofun (fun i hi => .inl (List.mem_singleton.1 hi))
    exact ⟨hb, _, _, .inr rfl, by simp, .inl ⟨rfl, hz, rfl⟩⟩
  · have hgb : g ≠ b := fun e => hne' (by rw [e]; rfl)
    have hpre : (bs ++ Lib.strCells s) <+: cur.toList := by
      rw [Nat.mul_one] at q6
      rw [← q6]; exact List.take_prefix _ _
    refine key (fun i => if i = b then some ⟨Tryd.laysB_ren.t 72, [.pointer (some ⟨b, 0, none⟩), .slice (some ⟨g, 0, none⟩) (bs ++ Lib.strCells s).length cap], 2, (0, 0)⟩ else if g = i then some ⟨Tryd.laysB_ren.t 5, bs ++ Lib.strCells s, cap, (0, 0)⟩ else if v.ownBlock = some i then none else σ i) [b, g] (by simp) ?_ (fun i h1 h2 => ?_) (fun g' hg' => ?_) (fun i hi => ?_)
    · exact ⟨hb, _, _, .inr rfl, by simp, .inr ⟨g, cap, rfl, q1, hgb, by simp [hgb], q3, q4, rfl⟩⟩
    · have : ¬ g = i := fun e => h2 (by rw [e]; rfl)
      simp [h1, this]
    · have : g = g' := by cases hg'; rfl
      subst this
      exact ⟨cap, cur, by simp [hgb], q1, q2, by omega, hpre⟩
    · simp at hi
      rcases hi with h | h
      · exact .inl h
      · exact .inr (by rw [h]; rfl)
end
end Go.Proofs.YtlbpnfhhoalenaaDoor

/- strings.Builder: its text is taken. -/
set_option linter.unusedVariables false
set_option linter.unusedSimpArgs false
namespace Go.Proofs
open Go.Shelf Go.RowKit

set_option maxHeartbeats 4000000 in
set_option maxRecDepth 100000 in
theorem Tryd.string_exact (b g cap : Nat) (p : Value) (l : List UInt8) (cur : Array Value) (w : World) (h0 : l ≠ []) (hbk : w.heap[b]? = some (.cells #[p, .slice (some ⟨g, 0, none⟩) l.length cap] (Tryd.lays169_ren.t 72) (0, 0))) (hg : w.heap[g]? = some (.cells cur (Tryd.lays169_ren.t 5) (0, 0)))
    (hnc : l.length ≤ cap) (hcm : cap ≤ maxLen) (hcs : cur.size = cap) (htake : cur.toList.take l.length = Lib.byteCells l) :
    Calls Tryd.prog (Tryd.lays169_ren.f 169) #[.pointer (some ⟨b, 0, none⟩)] w fun e w' => e = .returned (.string ⟨l.toArray⟩) ∧ w' = w.drew.freeze ⟨g, 0, none⟩ l.length := by
  have L := Tryd.lays169
  have X := Tryd.Builder_Extra_169
  have hl0 : l.length ≠ 0 := by simpa using h0
  have c1 : w.drew.cell? ⟨b, 1, none⟩ = some (.slice (some ⟨g, 0, none⟩) l.length cap) := by
    have : w.drew.heap[b]? = some (.cells #[p, .slice (some ⟨g, 0, none⟩) l.length cap] (Tryd.lays169_ren.t 72) (0, 0)) := hbk
    rw [Lib.cell_of_heap this]; rfl
  have hSD : (Builtin.unsafeSliceData_ #[(Tryd.lays169_ren.t 37)] (Tryd.lays169_ren.t 127) #[.slice (some ⟨g, 0, none⟩) l.length cap]).run Tryd.prog w.drew = .ok (.pointer (some ⟨g, 0, none⟩)) w.drew :=
    Lib.run_unsafeSliceData_row _ _ _ _ _ _ (by omega)
  have hown : w.ownsRow 0 (Tryd.lays169_ren.t 5) 1 (.slice (some ⟨g, 0, none⟩) l.length cap) l.length (Lib.byteCells l) := ⟨by simp [Lib.byteCells], .inr ⟨g, cap, cur, rfl, Nat.zero_le _, hg, hnc, hcm, by omega, by rw [Nat.mul_one]; exact htake⟩⟩
  have hUS : (Builtin.unsafeString_ #[(Tryd.lays169_ren.t 127), (Tryd.lays169_ren.t 3)] (Tryd.lays169_ren.t 9) #[.pointer (some ⟨g, 0, none⟩), .int .i64 l.length]).run Tryd.prog w.drew = .ok (.string ⟨l.toArray⟩) (w.drew.freeze ⟨g, 0, none⟩ l.length) := by
    refine Lib.run_unsafeString_row w.drew (Tryd.lays169_ren.t 127) (Tryd.lays169_ren.t 3) (Tryd.lays169_ren.t 9) (Tryd.lays169_ren.t 5) L.t127 X.cellsByte g cur.size (by have hg' : w.drew.heap[g]? = some (.cells cur (Tryd.lays169_ren.t 5) (0, 0)) := hg; simp [World.shape?, hg']) l h0 (by omega) (by unfold maxLen at hcm; omega) ?_
    intro j x hx
    have := hown.cells (g := g) rfl j (.int .u8 x.toNat) (by simp [Lib.byteCells, hx])
    exact this
  have mixed := L.mixed
  have t72 := L.t72; have a72 := L.a72; have z72 := L.z72; have v72 := L.v72; have u72 := run_underlying L.t72
  have t70 := L.t70; have a70 := L.a70; have z70 := L.z70; have v70 := L.v70; have u70 := run_underlying L.t70
  have t37 := L.t37; have a37 := L.a37; have z37 := L.z37; have v37 := L.v37; have u37 := run_underlying L.t37
  have t127 := L.t127; have a127 := L.a127; have z127 := L.z127; have v127 := L.v127; have u127 := run_underlying L.t127
  have t3 := L.t3; have a3 := L.a3; have z3 := L.z3; have v3 := L.v3; have u3 := run_underlying L.t3
  have t9 := L.t9; have a9 := L.a9; have z9 := L.z9; have v9 := L.v9; have u9 := run_underlying L.t9
  have t5 := X.t5; have a5 := X.a5; have z5 := X.z5; have v5 := X.v5; have u5 := run_underlying X.t5
  go_enter L.f169, Body.n169_ntmps Tryd.lays169_ren
  go_wp2
  go_region_o
  all_goals (go_wp2; go_ret; exact ⟨rfl, rfl⟩)
end Go.Proofs
namespace Go.Proofs.YtlbpnfhhoalenaaDoor
open Go Go.Av Go.RowKit

section
variable {w0 : World} {σ : Vw}

theorem heap_two {w : World} {b T : Nat} {p v : Value} (hw : Sat w0 σ w) (hr : σ b = some ⟨T, [p, v], 2, (0, 0)⟩) : w.heap[b]? = some (.cells #[p, v] T (0, 0)) := by
  obtain ⟨_, cur, hc, hpre, hcap, _⟩ := hw.row b _ hr
  simp only at hc hpre hcap
  have hl : cur.toList = [p, v] := by
    obtain ⟨t, ht⟩ := hpre
    have := congrArg List.length ht
    simp only [List.length_append, List.length_cons, List.length_nil, Array.length_toList, hcap] at this
    have ht0 : t = [] := List.eq_nil_of_length_eq_zero (by omega)
    rw [ht0] at ht
    simpa using ht.symm
  have hc2 : cur = #[p, v] := by apply Array.ext'; simpa using hl
  rw [← hc2]; exact hc

theorem string_view {b : Nat} {F : List Nat} {l : List UInt8} (h : BV w0 σ b F (Lib.byteCells l)) {R : Value → Vw → Prop} (hR : ∀ σ', KeepsBut F σ σ' → R (.string ⟨l.toArray⟩) σ') :
    AC Tryd.prog w0 n_p_strings_Builder_String [.pointer (some ⟨b, 0, none⟩)] σ R := by
  refine ⟨is_p_strings_Builder_String, fun w hw => ?_⟩
  obtain ⟨hb, p, v, hp, hr, hv⟩ := h
  have hbk := heap_two hw hr
  have full : ∀ {w' : World}, Below w.heap.size w w' → R (.string ⟨l.toArray⟩) σ → ∃ u σ', (Ending.returned (.string ⟨l.toArray⟩)) = .returned u ∧ R u σ' ∧ Aft w0 σ w σ' w' := fun k hRσ => ⟨_, σ, rfl, hRσ, Aft.below hw k⟩
  have hRσ := hR σ (KeepsBut.refl _ _)
  cases l with
  | nil =>
    rcases hv with ⟨rfl, _, rfl⟩ | ⟨q, cap, rfl, h1, h2, h3, h4, h5, rfl⟩
    · refine (Any.Builder_String_nil Tryd.lays169 Tryd.Builder_Extra_169 w.heap.size b p w hbk).mono ?_
      rintro e w' ⟨rfl, k⟩
      exact full k hRσ
    · obtain ⟨_, cur, hc, hpre, hcap, _⟩ := hw.row q _ h3
      simp only at hc hpre hcap
      by_cases hc0 : cap = 0
      · subst hc0
        refine (Any.Builder_String_noroom Tryd.lays169 Tryd.Builder_Extra_169 w.heap.size b q p cur w (Nat.le_refl _) hbk hc).mono ?_
        rintro e w' ⟨rfl, k⟩
        exact full k hRσ
      · refine (Any.Builder_String_room Tryd.lays169 Tryd.Builder_Extra_169 w.heap.size b q cap p w hc0 hbk).mono ?_
        rintro e w' ⟨rfl, k⟩
        exact full k hRσ
  | cons x l =>
    rcases hv with ⟨_, h0, _⟩ | ⟨q, cap, rfl, h1, h2, h3, h4, h5, rfl⟩
    · simp [Lib.byteCells] at h0
    obtain ⟨_, cur, hc, hpre, hcap, _⟩ := hw.row q _ h3
    simp only at hc hpre hcap
    have hlen : (Lib.byteCells (x :: l)).length = (x :: l).length := by simp [Lib.byteCells]
    rw [hlen] at hbk h4
    refine (Tryd.string_exact b q cap p (x :: l) cur w (by simp) hbk hc h4 h5 (by omega) ?_).mono ?_
    · have := List.prefix_iff_eq_take.1 hpre
      rw [hlen] at this; exact this.symm
    rintro e w' ⟨rfl, rfl⟩
    have hk : ∀ k, k ≠ q → (w.drew.freeze ⟨q, 0, none⟩ (x :: l).length).heap[k]? = w.heap[k]? := fun k hk => by
      have hk' : ¬ q = k := fun e => hk e.symm
      have e1 : w.drew.heap = w.heap := rfl
      simp [World.freeze, Array.getElem?_modify, hk', e1]
    have hs : (w.drew.freeze ⟨q, 0, none⟩ (x :: l).length).heap.size = w.heap.size := by
      have e1 : w.drew.heap = w.heap := rfl
      simp [World.freeze, e1]
    have hbl : Below w0.heap.size w (w.drew.freeze ⟨q, 0, none⟩ (x :: l).length) := Lib.below_freeze (Below.drew (Below.refl _ _)) (p := ⟨q, 0, none⟩) h1 _
    refine ⟨_, fun i => if i = q then none else σ i, rfl, hR _ (fun i r hi hF => ?_), ⟨⟨hw.bel.trans hbl, fun i r hi => ?_⟩, by rw [hs]; exact Nat.le_refl _, fun i hi hn => ?_, fun i r hi => ?_⟩⟩
    · have : i ≠ q := fun e => hF (by simp [e])
      simp only [this, if_false]; exact hi
    · by_cases e : i = q
      · simp [e] at hi
      · simp only [e, if_false] at hi
        obtain ⟨g1, cur', g2, g3⟩ := hw.row i r hi
        exact ⟨g1, cur', (hk i e).trans g2, g3⟩
    · exact hk i fun e => by rw [e, h3] at hn; cases hn
    · by_cases e : i = q
      · simp [e] at hi
      · simp only [e, if_false] at hi
        exact .inl (by rw [hi]; simp)
end
end Go.Proofs.YtlbpnfhhoalenaaDoor

/- 'TreeShow': each part of a tree is written into a builder; the law. -/
set_option linter.unusedVariables false
set_option linter.unusedSimpArgs false
namespace Go.Proofs.YtlbpnfhhoalenaaDoor
open Go Go.Av Go.RowKit

theorem none_at {σ s : Vw} (k : Keeps σ s) {i : Nat} (h : s i = none) : σ i = none := by
  cases hs : σ i with
  | none => rfl
  | some r => rw [k i r hs] at h; cases h
theorem strCells_app (a b : ByteArray) : Lib.strCells (a ++ b) = Lib.strCells a ++ Lib.strCells b := by
  have e : ∀ s : ByteArray, Lib.strCells s = (bl s).map fun b => Value.int .u8 b.toNat := fun _ => rfl
  rw [e, e, e, bl_append, List.map_append]
theorem cat_assoc (a b c : ByteArray) : a ++ b ++ c = a ++ (b ++ c) := by apply bl_inj; simp [bl_append]

section
variable {w0 : World} {σ : Vw}

theorem nil_path : OStrs w0 σ [] (.slice none 0 0) [] := ⟨by simp, by simp, .inl ⟨rfl, rfl, rfl⟩⟩
theorem impl_below {v : Value} {ps : List ByteArray} {y : ByteArray} (h : RSl 1 RS (Av.get w0 σ) v ps) (hl : ps.length ≤ 1000000) (hy : y.size ≤ 1000000) {R : Value → Vw → Prop}
    (hR : ∀ v' F σ', Keeps σ σ' → OStrs w0 σ' F v' (ps ++ [y]) → (∀ b, b ∈ F → σ b = none) → R v' σ') : AC Tryd.prog w0 n_impl_below [v, .string y] σ R := by
  refine ac_impl_below ?_
  unfold vc_impl_below
  intro b h1 h2
  have kb : Keeps σ (σ.put b ⟨t_string, [], 0, (0, 0)⟩) := Keeps.put h2
  have hb0 : ∀ i, i ∈ [b] → σ i = none := fun i hi => by rw [List.mem_singleton.1 hi]; exact h2
  refine (OAcc.new (w0 := w0) (σ := σ) (ety := t_string) (n := 1) (O := OStr) h1).all (ok_str w0) h kb.le (fun es y hy => ⟨rfl, hy⟩) (by simp; omega) (by omega) fun v1 F1 s1 k1 o1 f1 => ?_
  rw [List.nil_append] at o1
  have K1 := k1.old kb hb0
  have hF1 := fresh_in kb hb0 f1
  rw [pVal1 rfl]
  refine o1.one (ok_str w0) (f := []) (y := y) ⟨rfl, rfl, by omega⟩ (by simp) (by omega) (by omega) fun v2 F2 s2 k2 o2 f2 => ?_
  refine hR v2 F2 s2 (k2.old K1 hF1) o2.osl (fresh_in K1 hF1 fun j hj => ?_)
  rcases f2 j hj with h | h | h
  · exact .inl h
  · cases h
  · exact .inr h

/-- The box of the builder's address. -/
def boxR (b : Nat) (r : Row) : Prop := r.cells = [.pointer (some ⟨b, 0, none⟩)]
theorem box_load {s : Vw} {n2 b : Nat} {r : Row} (hn : w0.heap.size ≤ n2) (hr : s n2 = some r) (hb : boxR b r) {K : (Nat → Value) → Prop} (hK : ∀ g : Nat → Value, g 0 = .pointer (some ⟨b, 0, none⟩) → K g) : pLoad w0 1 (.pointer (some ⟨n2, 0, none⟩)) s K := by
  refine ⟨⟨n2, 0, none⟩, fun _ => .pointer (some ⟨b, 0, none⟩), rfl, fun i hi => ?_, hK _ rfl⟩
  have e : i = 0 := by omega
  subst e
  rw [addr_add, get_row hn hr, hb]; rfl

theorem show_one (tab : Tab w0) {n : Nat} {σ0 s : Vw} {b n2 : Nat} {r2 : Row} {F : List Nat} {bs : List Value} {ps : List ByteArray} {v : Value} {es : List Value} {x : Tr} {R : Value → Vw → Prop}
    (h : RT n (Av.get w0 σ0) es x) (hx : shortT n x) (k0 : Keeps σ0 s) (hB : BV w0 s b F bs) (hn2 : w0.heap.size ≤ n2) (hr2 : s n2 = some r2) (hbox : boxR b r2) (hv : RSl 1 RS (Av.get w0 s) v ps) (hps : ps.length + sumS ps ≤ 1000000)
    (hlen : bs.length + 2000000 ≤ 140737488355328)
    (hR : ∀ F' s', KeepsBut F s s' → BV w0 s' b F' (bs ++ Lib.strCells (lineT (pathT ps) x)) → (∀ i, i ∈ F' → i ∈ F ∨ s i = none) → R (.tuple ⟨[]⟩) s') :
    AC Tryd.prog w0 n_impl_Tree_show_c1 [v, .agg ⟨es⟩, .pointer (some ⟨n2, 0, none⟩)] s R := by
  obtain ⟨e0, e1, e2, e3, e4, rfl, _, hpv⟩ := RT.five h
  refine ac_impl_Tree_show_c1 ?_
  unfold vc_impl_Tree_show_c1
  rw [hpv]
  simp only [cellOf_agg, List.getD_cons_zero, List.getD_cons_succ]
  refine box_load hn2 hr2 hbox fun g hg => ?_
  refine impl_Tree_line tab (mono_rt n _ _ _ _ k0.le h) hx hv hps fun s1 k1 => ⟨k1.stay, ?_⟩
  rw [hg]
  have hls := line_size hx (pathT ps)
  have hpt := pathT_size ps
  have hB1 := hB.frame (k1.but_at fun i hi => (hB.dom i hi).2)
  refine write_view hB1 (by omega) fun F' s2 k2 hB2 hF2 => ?_
  refine hR F' s2 (fun i r hi hF => k2 i r (k1 i r hi) hF) hB2 fun i hi => ?_
  rcases hF2 i hi with h | h
  · exact .inl h
  · exact .inr (none_at k1 h)

set_option maxRecDepth 20000 in
theorem impl_each (tab : Tab w0) : ∀ (n : Nat) {σ0 s : Vw} {b n2 : Nat} {r2 : Row} {F P : List Nat} {bs : List Value} {ps : List ByteArray} {v : Value} {es : List Value} {x : Tr} {R : Value → Vw → Prop},
    RT n (Av.get w0 σ0) es x → shortT n x → cntT n x ≤ 100000 → Keeps σ0 s → (∀ i, i ∈ F → σ0 i = none) → BV w0 s b F bs → w0.heap.size ≤ n2 → s n2 = some r2 → boxR b r2 → n2 ∉ F → OStrs w0 s P v ps → (∀ i, i ∈ P → i ∉ F) → ps.length + sumS ps + 6 * n ≤ 1000000 →
    bs.length + 2000000 * cntT n x + 2000000 ≤ 140737488355328 →
    (∀ F' s', KeepsBut F s s' → BV w0 s' b F' (bs ++ Lib.strCells (lineT (pathT ps) x ++ belowT n (shN ps) x)) → (∀ i, i ∈ F' → i ∈ F ∨ s i = none) → R (.tuple ⟨[]⟩) s') →
    AC Tryd.prog w0 n_impl_Tree_each [.agg ⟨es⟩, v, .func (.func n_impl_Tree_show_c1) ⟨[]⟩ ⟨[.pointer (some ⟨n2, 0, none⟩)]⟩] s R := by
  intro n
  induction n with
  | zero => intro σ0 s b n2 r2 F P bs ps v es x R h; exact h.elim
  | succ n ih =>
    intro σ0 s b n2 r2 F P bs ps v es x R h hx hc k0 hF0 hB hn2 hr2 hbox hnF hP hPF hps hlen hR
    obtain ⟨d, m, t, ns, ks⟩ := x
    have h0 := h
    have hx0 := hx
    obtain ⟨u, w, rfl, h2, h3, h4, h5⟩ := h
    obtain ⟨hm, ht, hl, hns, hks⟩ := hx
    have hcnt : cntT (n + 1) (.mk d m t ns ks) = ks.length + sumBy (cntT n) ks := rfl
    refine ac_impl_Tree_each ?_
    unfold vc_impl_Tree_each
    rw [pVal_5 rfl rfl rfl h4.one h5.one]
    simp only [cellOf_agg, List.getD_cons_zero, List.getD_cons_succ]
    refine ⟨n_impl_Tree_show_c1, [], [.pointer (some ⟨n2, 0, none⟩)], rfl, ?_⟩
    have hl2 : bs.length + 2000000 ≤ 140737488355328 := by
      generalize cntT (n + 1) (.mk d m t ns ks) = cc at hlen
      omega
    have hps2 : ps.length + sumS ps ≤ 1000000 := by omega
    refine show_one tab h0 hx0 k0 hB hn2 hr2 hbox (hP.rel (ok_str w0)) hps2 hl2 fun F1 s1 k1 hB1 hF1 => ?_
    rw [h4.len]
    have hls := line_size hx0 (pathT ps)
    have hpt := pathT_size ps
    have hF1σ : ∀ i, i ∈ F1 → σ0 i = none := fun i hi => by
      rcases hF1 i hi with h | h
      · exact hF0 i h
      · exact none_at k0 h
    have r1 : s1 n2 = some r2 := k1 n2 r2 hr2 hnF
    have n1 : n2 ∉ F1 := fun h => by
      rcases hF1 n2 h with h | h
      · exact hnF h
      · rw [hr2] at h; cases h
    have hP1 := hP.frame (ok_str w0) (k1.at (fun i hi => (hP.dom (ok_str w0) i hi).2) hPF)
    have hPF1 : ∀ i, i ∈ P → i ∉ F1 := fun i hi hi' => by
      rcases hF1 i hi' with h | h
      · exact hPF i hi h
      · exact (hP.dom (ok_str w0) i hi).2 h
    have hl4 := h4.le
    rw [belowT_step] at hR
    refine loop_rule (m := ns.length) (fun c l st => ∃ (j : Nat) (F' : List Nat), c + j = ns.length ∧ KeepsBut F s st ∧ Keeps σ0 st ∧ (∀ i, i ∈ F' → i ∈ F ∨ s i = none) ∧
        BV w0 st b F' (bs ++ Lib.strCells (lineT (pathT ps) (.mk d m t ns ks) ++ catB (((ns.zip ks).take j).map fun y => lineT (kidP (shN ps) y.1) y.2 ++ belowT n (kidP (shN ps) y.1) y.2))) ∧ OStrs w0 st P v ps ∧ (∀ i, i ∈ P → i ∉ F') ∧
        l = [v, .func (.func n_impl_Tree_show_c1) ⟨[]⟩ ⟨[.pointer (some ⟨n2, 0, none⟩)]⟩, u, .int .i64 (ns.length : Nat), .int .i64 (j : Nat), .bool d, .int .i64 m, .string t, u, w]) ?_
      ⟨0, F1, by omega, k1, k1.old k0 hF0, hF1, (by rw [List.take_zero, List.map_nil, catB, show lineT (pathT ps) (.mk d m t ns ks) ++ (⟨#[]⟩ : ByteArray) = lineT (pathT ps) (.mk d m t ns ks) from by apply bl_inj; simp [bl_append]]; exact hB1), hP1, hPF1, rfl⟩
    rintro c l st L ⟨j, F', hcj, kst, k0st, hF', hB', hP', hPF', rfl⟩ hL
    simp only [vget, List.getD_cons_zero, List.getD_cons_succ]
    rw [pBin_lt, pIf_d]
    refine ⟨fun hi => ?_, fun hi => ?_⟩
    · have hx1 := List.getElem?_eq_getElem (show j < ns.length by omega)
      have hx2 := List.getElem?_eq_getElem (show j < ks.length by omega)
      generalize hxi : ns[j]'(by omega) = y1 at hx1
      generalize hxk : ks[j]'(by omega) = y2 at hx2
      have h5y := hns _ (List.mem_of_getElem? hx1)
      have hky := hks _ (List.mem_of_getElem? hx2)
      have hz : (ns.zip ks)[j]? = some (y1, y2) := by rw [List.getElem?_zip_eq_some]; exact ⟨hx1, hx2⟩
      have hcy := sumBy_mem (f := cntT n) (List.mem_of_getElem? hx2)
      refine RSl.at1 (h4.mono k0st.le fun _ _ h => h) hx1 fun g hg hgs => ?_
      have h5b : RSl 5 (RB (RT n) (Av.get w0 σ0)) (Av.get w0 st) w ks := by
        obtain ⟨A, cap, e1, e2, e3⟩ := h5
        refine ⟨A, cap, e1, e2, fun j x hj => ?_⟩
        obtain ⟨a, es, q1, q2, q3, q4⟩ := e3 j x hj
        refine ⟨a, es, q1, q2, fun i hi => ?_, q4⟩
        have := q3 i hi
        rw [List.getElem?_eq_getElem (by omega)] at this ⊢
        exact k0st.le _ _ this
      refine RSl.atp h5b hx2 fun p2 g2 hg2 => ?_
      rw [hg]
      refine impl_below (hP'.rel (ok_str w0)) (by omega) (by omega) fun pv PF s2 k2 op fp => ⟨k2.stay, ?_⟩
      have hB2 := hB'.frame (k2.but_at fun i hi => (hB'.dom i hi).2)
      have hP2 := hP'.frame (ok_str w0) (k2.but_at fun i hi => (hP'.dom (ok_str w0) i hi).2)
      have hr2' : s2 n2 = some r2 := k2 n2 r2 (kst n2 r2 hr2 hnF)
      have hn2' : n2 ∉ F' := fun h => by
        rcases hF' n2 h with h | h
        · exact hnF h
        · rw [hr2] at h; cases h
      have hF'σ : ∀ i, i ∈ F' → st i ≠ none := fun i hi => (hB'.dom i hi).2
      have hsum : sumS (ps ++ [y1]) = sumS ps + y1.size := by
        have e : ∀ l : List ByteArray, sumS (l ++ [y1]) = sumS l + y1.size := by
          intro l
          induction l with
          | nil => simp [sumS]
          | cons a r ih => simp only [List.cons_append, sumS, ih]; omega
        exact e ps
      have hkp : kidP (shN ps) y1 = shN (ps ++ [y1]) := by rw [shN_snoc]; rfl
      have hkt : pathT (ps ++ [y1]) = shN (ps ++ [y1]) := by rw [pathT, if_neg (by simp)]
      have hpz : (pathT ps).size ≤ 1 + ps.length + sumS ps := hpt
      have hbb : (Lib.strCells (lineT (pathT ps) (.mk d m t ns ks) ++ catB (((ns.zip ks).take j).map fun y => lineT (kidP (shN ps) y.1) y.2 ++ belowT n (kidP (shN ps) y.1) y.2))).length + 2000000 * cntT n y2 ≤ 2000000 * cntT (n + 1) (.mk d m t ns ks) := by
        have hsh := shN_size ps
        have hone : ∀ (y : ByteArray × Tr), y ∈ ns.zip ks → (lineT (kidP (shN ps) y.1) y.2 ++ belowT n (kidP (shN ps) y.1) y.2).size ≤ 1000060 + 1000060 * cntT n y.2 := fun y hy => by
          obtain ⟨z1, z2⟩ := y
          have hmz := List.of_mem_zip hy
          have q5 := hns _ hmz.1
          have qk := hks _ hmz.2
          have hpk : (kidP (shN ps) z1).size = (shN ps).size + 1 + z1.size := by unfold kidP; rw [ByteArray.size_append, ByteArray.size_append]; rfl
          have q6 := below_size n z2 (kidP (shN ps) z1) qk (by omega)
          have q7 := line_size qk (kidP (shN ps) z1)
          rw [ByteArray.size_append]
          simp only
          omega
        have hc1 : (catB (((ns.zip ks).take j).map fun y => lineT (kidP (shN ps) y.1) y.2 ++ belowT n (kidP (shN ps) y.1) y.2)).size ≤ sumBy (fun y : ByteArray × Tr => 1000060 + 1000060 * cntT n y.2) ((ns.zip ks).take j) := catB_size fun y hy => hone y (List.mem_of_mem_take hy)
        have ht1 := sumBy_take (f := fun y : ByteArray × Tr => 1000060 + 1000060 * cntT n y.2) hz
        have ht2 := sumBy_le (f := fun y : ByteArray × Tr => 1000060 + 1000060 * cntT n y.2) (xs := ns.zip ks) (j + 1)
        have ht3 := sumBy_zip (f := cntT n) (c := 1000060) (ns := ns) (ks := ks)
        rw [Lib.strCells_length, ByteArray.size_append]
        simp only at ht1
        omega
      refine ih (P := PF) hg2 hky (by omega) (k0st.trans k2) (fun i hi => ?_) hB2 hn2 hr2' hbox hn2' op (fun i hi hi' => hF'σ i hi' (fp i hi)) (by rw [List.length_append, hsum]; simp only [List.length_cons, List.length_nil]; omega) (by rw [List.length_append]; omega) fun F3 s3 k3 hB3 hF3 => ?_
      · rcases hF' i hi with h | h
        · exact hF0 i h
        · exact none_at k0 h
      rw [pBin_add (by omega)]
      have hn : ∀ i, i ∈ F3 → i ∈ F ∨ s i = none := fun i hi => by
        rcases hF3 i hi with h | h
        · exact hF' i h
        · have hst : st i = none := none_at k2 h
          by_cases hiF : i ∈ F
          · exact .inl hiF
          · refine .inr ?_
            cases hs : s i with
            | none => rfl
            | some r => rw [kst i r hs hiF] at hst; cases hst
      refine hL _ _ (c - 1) (by omega) ⟨j + 1, F3, by omega, fun i r hi hiF => ?_, fun i r hi => ?_, hn, ?_, hP2.frame (ok_str w0) (k3.at (fun i hi => (hP2.dom (ok_str w0) i hi).2) hPF'), fun i hi hi' => ?_, by simp⟩
      · have h1 := k2 i r (kst i r hi hiF)
        exact k3 i r h1 fun h => by
          rcases hF' i h with h | h
          · exact hiF h
          · rw [hi] at h; cases h
      · have h1 := k2 i r (k0st i r hi)
        refine k3 i r h1 fun h => ?_
        rcases hF' i h with h | h
        · rw [hF0 i h] at hi; cases hi
        · rw [k0 i r hi] at h; cases h
      · rw [List.take_add_one, hz, Option.toList_some, List.map_append, List.map_cons, List.map_nil, catB_snoc, hkp, ← cat_assoc, strCells_app, ← List.append_assoc]
        rw [hkt] at hB3
        exact hB3
      · rcases hF3 i hi' with h | h
        · exact hPF' i hi h
        · exact (hP2.dom (ok_str w0) i hi).2 h
    · have e : j = ns.length := by omega
      subst e
      rw [List.take_of_length_le (by rw [List.length_zip]; omega)] at hB'
      exact hR F' st kst hB' hF'

theorem sound_down : ∀ (m n : Nat) (x : Tr) (k : Int), soundB n x k = true → 5 ≤ k + (m : Int) → (∀ rd es, RT n rd es x → RT m rd es x) ∧ shortT m x ∧ cntT m x ≤ cntT n x
  | m, 0, x, k, h, _ => by simp [soundB] at h
  | 0, n + 1, .mk d mo t ns ks, k, h, hk => by
    simp only [soundB, Bool.and_eq_true, decide_eq_true_eq] at h
    exact absurd h.2.1 (by omega)
  | m + 1, n + 1, .mk d mo t ns ks, k, h, hk => by
    have hs := sound_short (n + 1) _ k h
    simp only [soundB, Bool.and_eq_true, decide_eq_true_eq] at h
    have ih : ∀ y, y ∈ ks → (∀ rd es, RT n rd es y → RT m rd es y) ∧ shortT m y ∧ cntT m y ≤ cntT n y := fun y hy => by
      obtain ⟨j, hj⟩ := List.getElem?_of_mem hy
      exact sound_down m n y (k + 1) (allB_iff.1 h.2.2 j y hj) (by omega)
    refine ⟨fun rd es hr => ?_, ⟨hs.1, hs.2.1, hs.2.2.1, hs.2.2.2.1, fun y hy => (ih y hy).2.1⟩, ?_⟩
    · obtain ⟨u, w, h1, h2, h3, h4, A, cap, e1, e2, e3⟩ := hr
      refine ⟨u, w, h1, h2, h3, h4, A, cap, e1, e2, fun j y hj => ?_⟩
      obtain ⟨a, es', q1, q2, q3, q4⟩ := e3 j y hj
      exact ⟨a, es', q1, q2, q3, (ih y (List.mem_of_getElem? hj)).1 _ _ q4⟩
    · have := sumBy_mono (f := cntT m) (g := cntT n) (xs := ks) fun y hy => (ih y hy).2.2
      show ks.length + sumBy (cntT m) ks ≤ ks.length + sumBy (cntT n) ks
      omega
noncomputable def showX (n : Nat) (x : Tr) : ByteArray := if treeOk n x = true then lineT ⟨#[47]⟩ x ++ belowT 5 ⟨#[]⟩ x else ⟨#[]⟩
theorem ok_parts {n : Nat} {x : Tr} (h : treeOk n x = true) : (∀ rd es, RT n rd es x → RT 5 rd es x) ∧ shortT 5 x ∧ cntT 5 x ≤ 30 := by
  simp only [treeOk, Bool.and_eq_true, decide_eq_true_eq] at h
  obtain ⟨h1, h2, h3⟩ := sound_down 5 n x 0 h.2.1 (by omega)
  exact ⟨h1, h2, by omega⟩

theorem impl_Tree_show (tab : Tab w0) {n : Nat} {es : List Value} {x : Tr} (h : RT n (Av.get w0 σ) es x) (hn : n ≤ 100000) (hx : shortT n x) (hc : cntT n x ≤ 100000) {R : Value → Vw → Prop} (hR : ∀ σ', Keeps σ σ' → R (.string (lineT ⟨#[47]⟩ x ++ belowT n ⟨#[]⟩ x)) σ') : AC Tryd.prog w0 n_impl_Tree_show [.agg ⟨es⟩] σ R := by
  have h0 := h
  obtain ⟨e0, e1, e2, e3, e4, rfl, _, hpv⟩ := RT.five h
  refine ac_impl_Tree_show ?_
  unfold vc_impl_Tree_show
  rw [hpv, pVal_2 rfl rfl]
  simp only [cellOf_agg, List.getD_cons_zero, List.getD_cons_succ]
  intro b hb1 hb2
  have kb : Keeps σ (σ.put b ⟨Tryd.laysB_ren.t 72, [.pointer none, .slice none 0 0], 2, (0, 0)⟩) := Keeps.put hb2
  intro n2 hn1 hn2
  refine elem_store (A := []) (C := []) (x := .pointer none) put_at rfl rfl rfl ?_
  simp only [List.nil_append, List.append_nil]
  rw [put_put]
  have hnb : n2 ≠ b := fun e => by rw [e] at hn2; simp [Vw.put] at hn2
  generalize hs4 : Vw.put _ n2 _ = s4
  have kb4 : Keeps (σ.put b ⟨Tryd.laysB_ren.t 72, [.pointer none, .slice none 0 0], 2, (0, 0)⟩) s4 := by rw [← hs4]; exact Keeps.put hn2
  have hbox : ∃ r2, s4 n2 = some r2 ∧ boxR b r2 := by rw [← hs4]; exact ⟨_, put_at, rfl⟩
  clear hs4
  obtain ⟨r2, hr2, hbox⟩ := hbox
  have hB := (BV.new (w0 := w0) (σ := σ) hb1).frame (σ' := s4) (kb4.but_at fun i hi => ((BV.new (w0 := w0) (σ := σ) hb1).dom i hi).2)
  refine impl_each tab n (P := []) (ps := []) h0 hx hc (kb.trans kb4) (fun i hi => by rw [List.mem_singleton.1 hi]; exact hb2) hB hn1 hr2 hbox (fun h => hnb (List.mem_singleton.1 h)) nil_path (by simp) (by simp only [List.length_nil, sumS]; omega) (by simp only [List.length_nil]; omega) fun F' s' k' hB' hF' => ?_
  have hr2' : s' n2 = some r2 := k' n2 r2 hr2 fun h => hnb (List.mem_singleton.1 h)
  refine box_load hn1 hr2' hbox fun g hg => ?_
  rw [hg]
  have e : ([] : List Value) ++ Lib.strCells (lineT (pathT []) x ++ belowT n (shN []) x) = Lib.byteCells (bl (lineT ⟨#[47]⟩ x ++ belowT n ⟨#[]⟩ x)) := rfl
  rw [e] at hB'
  refine string_view hB' fun s2 k2 => ?_
  have e2 : (⟨(bl (lineT ⟨#[47]⟩ x ++ belowT n ⟨#[]⟩ x)).toArray⟩ : ByteArray) = lineT ⟨#[47]⟩ x ++ belowT n ⟨#[]⟩ x := ofL_bl _
  rw [e2]
  refine hR s2 fun i r hi => ?_
  have hib : i ≠ b := fun e => by rw [e, hb2] at hi; cases hi
  have h1 := k' i r ((kb.trans kb4) i r hi) fun h => hib (List.mem_singleton.1 h)
  refine k2 i r h1 fun h => ?_
  rcases hF' i h with h | h
  · exact hib (List.mem_singleton.1 h)
  · rw [(kb.trans kb4) i r hi] at h; cases h

theorem spec_TreeShow {n : Nat} {es : List Value} {x : Tr} (h : RT n (Av.get w0 σ) es x) (hb : cntT n x ≤ 1000000000000) {R : Value → Vw → Prop} (hR : ∀ σ', Keeps σ σ' → R (.string (showX n x)) σ') : AC Tryd.prog w0 n_spec_TreeShow [.agg ⟨es⟩] σ R := by
  have h0 := h
  obtain ⟨e0, e1, e2, e3, e4, rfl, _, hpv⟩ := RT.five h
  refine ac_spec_TreeShow ?_
  unfold vc_spec_TreeShow
  rw [hpv]
  simp only [cellOf_agg, List.getD_cons_zero, List.getD_cons_succ]
  refine spec_TreeOk h0 hb ?_
  rw [pUn_not, pIf_b]
  refine ⟨fun hno => ?_, fun hyes => ?_⟩
  · have := hR σ (Keeps.refl _)
    rw [showX, if_neg (by simp at hno; rw [hno]; simp)] at this; exact this
  have hok : treeOk n x = true := by simpa using hyes
  obtain ⟨hdn, hx, hc⟩ := ok_parts hok
  have a1 : (⟨#[47]⟩ : ByteArray).size = 1 := rfl
  have a0 : (⟨#[]⟩ : ByteArray).size = 0 := rfl
  have hls := line_size hx ⟨#[47]⟩
  have hbs := below_size 5 x ⟨#[]⟩ hx (by omega)
  have h5 := hdn _ _ h0
  refine spec_l1Line h5 hx (by omega) fun s1 k1 => ?_
  refine spec_l1Show 5 (mono_rt 5 _ _ _ _ k1.le h5) hx (by omega) (by omega) fun s2 k2 => ?_
  rw [pBin_cat (by omega)]
  have := hR s2 (k1.trans k2)
  rw [showX, if_pos hok] at this; exact this
theorem impl_TreeShow (tab : Tab w0) {n : Nat} {es : List Value} {x : Tr} (h : RT n (Av.get w0 σ) es x) (hb : cntT n x ≤ 1000000000000) {R : Value → Vw → Prop} (hR : ∀ σ', Keeps σ σ' → R (.string (showX n x)) σ') : AC Tryd.prog w0 n_impl_TreeShow [.agg ⟨es⟩] σ R := by
  have h0 := h
  obtain ⟨e0, e1, e2, e3, e4, rfl, _, hpv⟩ := RT.five h
  refine ac_impl_TreeShow ?_
  unfold vc_impl_TreeShow
  rw [hpv]
  simp only [cellOf_agg, List.getD_cons_zero, List.getD_cons_succ]
  refine impl_TreeOk h0 hb ?_
  rw [pUn_not, pIf_b]
  refine ⟨fun hno => ?_, fun hyes => ?_⟩
  · have := hR σ (Keeps.refl _)
    rw [showX, if_neg (by simp at hno; rw [hno]; simp)] at this; exact this
  have hok : treeOk n x = true := by simpa using hyes
  obtain ⟨hdn, hx, hc⟩ := ok_parts hok
  refine impl_Tree_show tab (hdn _ _ h0) (by omega) hx (by omega) fun s1 k1 => ?_
  have := hR s1 k1
  rw [showX, if_pos hok] at this; exact this

theorem law_TreeShow (tab : Tab w0) {n : Nat} {es : List Value} {x : Tr} (h : RT n (Av.get w0 σ) es x) {R : Value → Vw → Prop} (hR : ∀ σ', R (.bool true) σ') : AC Tryd.prog w0 n_laws_FnExactTreeShow [.agg ⟨es⟩] σ R := by
  have h0 := h
  obtain ⟨e0, e1, e2, e3, e4, rfl, _, hpv⟩ := RT.five h
  refine ac_laws_FnExactTreeShow ?_
  unfold vc_laws_FnExactTreeShow
  rw [hpv]
  simp only [cellOf_agg, List.getD_cons_zero, List.getD_cons_succ]
  refine szTree n h0 (by omega) ?_
  rw [pBin_lt, pIf_d]
  refine ⟨fun _ => hR _, fun hb => ?_⟩
  rw [Av.left_neg] at hb
  have hsz : szT n x ≤ 1048576 := by omega
  have hfit := fit_of n x (by omega)
  have hcnt : cntT n x ≤ 1000000000000 := Nat.le_trans (cnt_le n x) (by omega)
  have ok := ok_rt w0 n
  refine toTree n h0 hfit fun es1 F1 s1 k1 o1 f1 => ?_
  refine spec_TreeShow (ok.rel _ _ _ _ o1) hcnt fun s2 k2 => ?_
  have K2 := k1.trans k2
  refine toTree n (mono_rt n _ _ _ _ K2.le h0) hfit fun es2 F2 s3 k3 o2 f2 => ?_
  have r2 := ok.rel _ _ _ _ o2
  obtain ⟨a2, b2, c2, d2, e2, rfl, _, hp2⟩ := RT.five r2
  rw [hp2]
  simp only [cellOf_agg, List.getD_cons_zero, List.getD_cons_succ]
  refine impl_TreeShow tab r2 hcnt fun s4 k4 => ?_
  rw [pBin_sne, pIf_d]
  refine ⟨fun h => absurd rfl h, fun _ => ?_⟩
  have K4 := (K2.trans k3).trans k4
  refine toTree n (mono_rt n _ _ _ _ K4.le h0) hfit fun es3 F3 s5 k5 o3 f3 => ?_
  refine eqTree n (mono_rt n _ _ _ _ (k4.trans k5).le r2) (ok.rel _ _ _ _ o3) ?_
  rw [pUn_not, pIf_b]
  exact ⟨fun h => by simp at h, fun _ => hR _⟩
end
end Go.Proofs.YtlbpnfhhoalenaaDoor

/- 'TableId': the number of a tree's text, by either hand; the law. -/
set_option linter.unusedVariables false
set_option linter.unusedSimpArgs false
namespace Go.Proofs.YtlbpnfhhoalenaaDoor
open Go Go.Av Go.RowKit

def idL : List UInt8 → Nat → Nat
  | [], a => a
  | b :: r, a => idL r ((a * 131 + b.toNat) % 1000000007)
theorem idL_snoc : ∀ (l : List UInt8) (b : UInt8) (a : Nat), idL (l ++ [b]) a = (idL l a * 131 + b.toNat) % 1000000007
  | [], b, a => rfl
  | c :: l, b, a => by simp only [List.cons_append, idL]; exact idL_snoc l b _
theorem idL_lt : ∀ (l : List UInt8) (a : Nat), a < 1000000007 → idL l a < 1000000007
  | [], a, h => h
  | c :: l, a, h => idL_lt l _ (Nat.mod_lt _ (by omega))
def idB (s : ByteArray) : Nat := idL (bl s) 7

section
variable {w0 : World} {σ : Vw}

theorem spec_l31Id {s : ByteArray} (hs : s.size ≤ 1000000000000) {R : Value → Vw → Prop} (hR : R (.int .i64 (idB s : Nat)) σ) : AC Tryd.prog w0 n_spec_l31Id [.string s] σ R := by
  refine ac_spec_l31Id ?_
  unfold vc_spec_l31Id
  have hlen : (bl s).length = s.size := size_bl s
  refine loop_rule (m := s.size) (fun m l st => ∃ i : Nat, m + i = s.size ∧ st = σ ∧ l = [.string s, .int .i64 (idL ((bl s).take i) 7 : Nat), .int .i64 (i : Nat)]) ?_ ⟨0, by omega, rfl, rfl⟩
  rintro m l st L ⟨i, hm, rfl, rfl⟩ hL
  simp only [vget, List.getD_cons_zero, List.getD_cons_succ]
  rw [pLenS_s, pBin_lt, pIf_d]
  refine ⟨fun hi => ?_, fun hi => ?_⟩
  · have hi' : i < s.size := by omega
    have hget := bl_get s i hi'
    generalize hx : s[i]'hi' = x at hget
    have hx2 : x.toNat < 256 := x.toNat_lt
    have hid := idL_lt ((bl s).take i) 7 (by omega)
    rw [pBin_mul (by omega)]
    refine pIndexStr_s hi' ?_
    rw [hx, pConv_i64 (by omega), pBin_add (by omega), pBin_rem (by omega), pBin_add (by omega)]
    refine hL _ _ (m - 1) (by omega) ⟨i + 1, by omega, rfl, ?_⟩
    rw [List.take_add_one, hget, Option.toList_some, idL_snoc]; simp
  · have e : i = s.size := by omega
    subst e
    rw [List.take_of_length_le (by omega)]
    exact hR

theorem impl_Tree_id (tab : Tab w0) {n : Nat} {es : List Value} {x : Tr} (h : RT n (Av.get w0 σ) es x) (hn : n ≤ 100000) (hx : shortT n x) (hc : cntT n x ≤ 100000) {R : Value → Vw → Prop} (hR : ∀ σ', Keeps σ σ' → R (.int .i64 (idB (lineT ⟨#[47]⟩ x ++ belowT n ⟨#[]⟩ x) : Nat)) σ') : AC Tryd.prog w0 n_impl_Tree_id [.agg ⟨es⟩] σ R := by
  have h0 := h
  obtain ⟨e0, e1, e2, e3, e4, rfl, _, hpv⟩ := RT.five h
  have a1 : (⟨#[47]⟩ : ByteArray).size = 1 := rfl
  have a0 : (⟨#[]⟩ : ByteArray).size = 0 := rfl
  have hls := line_size hx ⟨#[47]⟩
  have hbs := below_size n x ⟨#[]⟩ hx (by omega)
  refine ac_impl_Tree_id ?_
  unfold vc_impl_Tree_id
  rw [hpv]
  simp only [cellOf_agg, List.getD_cons_zero, List.getD_cons_succ]
  refine impl_Tree_show tab h0 hn hx hc fun s1 k1 => ?_
  have hsz : (lineT ⟨#[47]⟩ x ++ belowT n ⟨#[]⟩ x).size ≤ 1000000000000 := by rw [ByteArray.size_append]; omega
  generalize lineT ⟨#[47]⟩ x ++ belowT n ⟨#[]⟩ x = s at hR hsz
  have hlen : (bl s).length = s.size := size_bl s
  rw [pLenS_s]
  refine loop_rule (m := s.size) (fun m l st => ∃ i : Nat, m + i = s.size ∧ st = s1 ∧ l = [.int .i64 (idL ((bl s).take i) 7 : Nat), .string s, .int .i64 (s.size : Nat), .int .i64 (i : Nat)]) ?_ ⟨0, by omega, rfl, rfl⟩
  rintro m l st L ⟨i, hm, rfl, rfl⟩ hL
  simp only [vget, List.getD_cons_zero, List.getD_cons_succ]
  rw [pBin_lt, pIf_d]
  refine ⟨fun hi => ?_, fun hi => ?_⟩
  · have hi' : i < s.size := by omega
    have hget := bl_get s i hi'
    generalize hx : s[i]'hi' = x at hget
    have hx2 : x.toNat < 256 := x.toNat_lt
    have hid := idL_lt ((bl s).take i) 7 (by omega)
    rw [pBin_mul (by omega)]
    refine pIndexStr_s hi' ?_
    rw [hx, pConv_i64 (by omega), pBin_add (by omega), pBin_rem (by omega), pBin_add (by omega)]
    refine hL _ _ (m - 1) (by omega) ⟨i + 1, by omega, rfl, ?_⟩
    rw [List.take_add_one, hget, Option.toList_some, idL_snoc]
    simp only [List.cons.injEq, Value.int.injEq, true_and, and_true]
    refine ⟨by omega, by omega⟩
  · have e : i = s.size := by omega
    subst e
    rw [List.take_of_length_le (by omega)]
    exact hR st k1

noncomputable def idX (n : Nat) (x : Tr) : Int := if treeOk n x = true then (idB (lineT ⟨#[47]⟩ x ++ belowT 5 ⟨#[]⟩ x) : Nat) else -1
theorem spec_TableId {n : Nat} {es : List Value} {x : Tr} (h : RT n (Av.get w0 σ) es x) (hb : cntT n x ≤ 1000000000000) {R : Value → Vw → Prop} (hR : ∀ σ', Keeps σ σ' → R (.int .i64 (idX n x)) σ') : AC Tryd.prog w0 n_spec_TableId [.agg ⟨es⟩] σ R := by
  have h0 := h
  obtain ⟨e0, e1, e2, e3, e4, rfl, _, hpv⟩ := RT.five h
  refine ac_spec_TableId ?_
  unfold vc_spec_TableId
  rw [hpv]
  simp only [cellOf_agg, List.getD_cons_zero, List.getD_cons_succ]
  refine spec_TreeOk h0 hb ?_
  rw [pUn_not, pIf_b]
  refine ⟨fun hno => ?_, fun hyes => ?_⟩
  · have := hR σ (Keeps.refl _)
    rw [idX, if_neg (by simp at hno; rw [hno]; simp)] at this; exact this
  have hok : treeOk n x = true := by simpa using hyes
  obtain ⟨hdn, hx, hc⟩ := ok_parts hok
  have a1 : (⟨#[47]⟩ : ByteArray).size = 1 := rfl
  have a0 : (⟨#[]⟩ : ByteArray).size = 0 := rfl
  have hls := line_size hx ⟨#[47]⟩
  have hbs := below_size 5 x ⟨#[]⟩ hx (by omega)
  have h5 := hdn _ _ h0
  refine ac_spec_l31Of ?_
  unfold vc_spec_l31Of
  rw [hpv]
  simp only [cellOf_agg, List.getD_cons_zero, List.getD_cons_succ]
  refine spec_l1Line h5 hx (by omega) fun s1 k1 => ?_
  refine spec_l1Show 5 (mono_rt 5 _ _ _ _ k1.le h5) hx (by omega) (by omega) fun s2 k2 => ?_
  rw [pBin_cat (by omega)]
  refine spec_l31Id (by rw [ByteArray.size_append]; omega) ?_
  have := hR s2 (k1.trans k2)
  rw [idX, if_pos hok] at this; exact this
theorem impl_TableId (tab : Tab w0) {n : Nat} {es : List Value} {x : Tr} (h : RT n (Av.get w0 σ) es x) (hb : cntT n x ≤ 1000000000000) {R : Value → Vw → Prop} (hR : ∀ σ', Keeps σ σ' → R (.int .i64 (idX n x)) σ') : AC Tryd.prog w0 n_impl_TableId [.agg ⟨es⟩] σ R := by
  have h0 := h
  obtain ⟨e0, e1, e2, e3, e4, rfl, _, hpv⟩ := RT.five h
  refine ac_impl_TableId ?_
  unfold vc_impl_TableId
  rw [hpv]
  simp only [cellOf_agg, List.getD_cons_zero, List.getD_cons_succ]
  refine impl_TreeOk h0 hb ?_
  rw [pUn_not, pIf_b]
  refine ⟨fun hno => ?_, fun hyes => ?_⟩
  · have := hR σ (Keeps.refl _)
    rw [idX, if_neg (by simp at hno; rw [hno]; simp)] at this; exact this
  have hok : treeOk n x = true := by simpa using hyes
  obtain ⟨hdn, hx, hc⟩ := ok_parts hok
  refine impl_Tree_id tab (hdn _ _ h0) (by omega) hx (by omega) fun s1 k1 => ?_
  have := hR s1 k1
  rw [idX, if_pos hok] at this; exact this

theorem law_TableId (tab : Tab w0) {n : Nat} {es : List Value} {x : Tr} (h : RT n (Av.get w0 σ) es x) {R : Value → Vw → Prop} (hR : ∀ σ', R (.bool true) σ') : AC Tryd.prog w0 n_laws_FnExactTableId [.agg ⟨es⟩] σ R := by
  have h0 := h
  obtain ⟨e0, e1, e2, e3, e4, rfl, _, hpv⟩ := RT.five h
  refine ac_laws_FnExactTableId ?_
  unfold vc_laws_FnExactTableId
  rw [hpv]
  simp only [cellOf_agg, List.getD_cons_zero, List.getD_cons_succ]
  refine szTree n h0 (by omega) ?_
  rw [pBin_lt, pIf_d]
  refine ⟨fun _ => hR _, fun hb => ?_⟩
  rw [Av.left_neg] at hb
  have hsz : szT n x ≤ 1048576 := by omega
  have hfit := fit_of n x (by omega)
  have hcnt : cntT n x ≤ 1000000000000 := Nat.le_trans (cnt_le n x) (by omega)
  have ok := ok_rt w0 n
  refine toTree n h0 hfit fun es1 F1 s1 k1 o1 f1 => ?_
  refine spec_TableId (ok.rel _ _ _ _ o1) hcnt fun s2 k2 => ?_
  have K2 := k1.trans k2
  refine toTree n (mono_rt n _ _ _ _ K2.le h0) hfit fun es2 F2 s3 k3 o2 f2 => ?_
  have r2 := ok.rel _ _ _ _ o2
  obtain ⟨a2, b2, c2, d2, e2, rfl, _, hp2⟩ := RT.five r2
  rw [hp2]
  simp only [cellOf_agg, List.getD_cons_zero, List.getD_cons_succ]
  refine impl_TableId tab r2 hcnt fun s4 k4 => ?_
  rw [pBin_ne, pIf_d]
  refine ⟨fun h => absurd rfl h, fun _ => ?_⟩
  have K4 := (K2.trans k3).trans k4
  refine toTree n (mono_rt n _ _ _ _ K4.le h0) hfit fun es3 F3 s5 k5 o3 f3 => ?_
  refine eqTree n (mono_rt n _ _ _ _ (k4.trans k5).le r2) (ok.rel _ _ _ _ o3) ?_
  rw [pUn_not, pIf_b]
  exact ⟨fun h => by simp at h, fun _ => hR _⟩
end
end Go.Proofs.YtlbpnfhhoalenaaDoor

/- Marks of trees. -/
set_option linter.unusedVariables false
set_option linter.unusedSimpArgs false
namespace Go.Proofs.YtlbpnfhhoalenaaDoor
open Go Go.Av

def cT : Nat → Tr → Nat
  | 0, _ => 0
  | n + 1, .mk d m t ns ks => 3 + ns.length + sumBy (cT n) ks
noncomputable def mkT : Nat → Nat → Tr → Tr
  | 0, _, x => x
  | n + 1, k, .mk d m t ns ks => .mk (decide ((k : Int) % 3 = 0)) ((k + 1 : Nat) : Int) (mtext (k + 2)) (mkTexts (k + 3) ns) (mkS (mkT n) (cT n) (k + 3 + ns.length) ks)

theorem cT_le : ∀ (n : Nat) (x : Tr), cT n x ≤ 3 + 4 * szT n x
  | 0, _ => by simp [cT]
  | n + 1, .mk d m t ns ks => by
    have h : ∀ (l : List Tr), sumBy (cT n) l ≤ 3 * l.length + 4 * sumBy (szT n) l := by
      intro l
      induction l with
      | nil => simp [sumBy]
      | cons a r ih => have := cT_le n a; simp only [sumBy, List.length_cons]; omega
    have := h ks
    simp only [cT, szT]; omega

section
variable {w0 : World} {σ : Vw}

theorem markTreeS : ∀ (n : Nat) {σ : Vw} {F : List Nat} {v : Value} {xs : List Tr} {k : Nat} {R : Value → Vw → Prop}, OSl w0 5 (OT w0 n) σ F v xs → k + sumBy (cT n) xs ≤ 1000000000000 →
    (∀ σ', KeepsBut F σ σ' → OSl w0 5 (OT w0 n) σ' F v (mkS (mkT n) (cT n) k xs) → R (.int .i64 ((k + sumBy (cT n) xs : Nat) : Int)) σ') → AC Tryd.prog w0 n_laws_markTreeS [v, .int .i64 (k : Nat)] σ R := by
  intro n
  induction n using Nat.strongRecOn with
  | _ n ih =>
    intro σ F v xs k R h hk hR
    refine ac_laws_markTreeS ?_
    unfold vc_laws_markTreeS
    refine mark_loop (ok_rt w0 n) (mk := mkT n) (cnt := cT n) h hk ?_ hR
    intro j x k' s ys K hj hlen hkb hx hk' hO hyj hK
    simp only [vget, List.getD_cons_zero, List.getD_cons_succ]
    obtain ⟨b, o, f, c, A, C, r, hix, hb, hr, hc, hA, hOx, hbF, hf, hput⟩ := hO.focus (ok_rt w0 n) hyj
    obtain _ | n := n
    · exact hOx.elim
    obtain ⟨d, m, t, ns, ks⟩ := x
    obtain ⟨u, w, F1, F2, rfl, h2, h3, h4, h5, rfl, hnd⟩ := hOx
    simp only [cT] at hk'
    have hb1 : b ∉ F1 := fun e => (hf b (List.mem_append_left _ e)).2 rfl
    have hb2 : b ∉ F2 := fun e => (hf b (List.mem_append_right _ e)).2 rfl
    rw [pBin_rem (by omega), pBin_eq]
    refine hix _ ?_
    refine field_store hr hc hA (by show 0 < 5; omega) rfl ?_
    simp only [List.set_cons_zero, List.set_cons_succ]
    rw [pBin_add (by omega)]
    refine hix _ ?_
    refine field_store put_at rfl hA (by show 1 < 5; omega) rfl ?_
    simp only [List.set_cons_zero, List.set_cons_succ]
    rw [put_put, pBin_add (by omega)]
    rw [show ((k' : Nat) : Int) + 1 + 1 = ((k' + 2 : Nat) : Int) by omega]
    refine markText (by omega) fun s1 k1 => ?_
    refine hix _ ?_
    refine field_store (k1 _ _ put_at) rfl hA (by show 2 < 5; omega) rfl ?_
    simp only [List.set_cons_zero, List.set_cons_succ]
    rw [pBin_add (by omega)]
    refine hix _ ?_
    refine field_load hb put_at rfl hA (y := u) rfl fun g hg => ?_
    rw [hg]
    generalize hcs : [Value.bool (decide ((k' : Int) % 3 = 0)), Value.int .i64 ((k' : Int) + 1), Value.string (mtext (k' + 2)), u, w] = cs
    generalize hs2 : s1.put b _ = s2
    have hs2b : ∃ r2, s2 b = some r2 ∧ r2.cells = A ++ (cs ++ C) := by rw [← hs2, ← hcs]; exact ⟨_, put_at, rfl⟩
    have hs2o : ∀ i, i ≠ b → ∀ ri, s i = some ri → s2 i = some ri := fun i hi ri hri => by
      rw [← hs2]
      simp only [Vw.put, hi, if_false]
      exact k1 i ri (by simp [Vw.put, hi, hri])
    have kb2 : KeepsBut F s s2 := fun i ri hri hiF => hs2o i (fun e => hiF (e ▸ hbF)) ri hri
    clear hs2
    have fr : ∀ {G : List Nat}, (∀ i, i ∈ G → i ≠ b) → (∀ i, i ∈ G → s i ≠ none) → ∀ i, i ∈ G → s2 i = s i := fun h1 h2 i hi => by
      cases hs : s i with
      | none => exact absurd hs (h2 i hi)
      | some ri => exact hs2o i (h1 i hi) ri hs
    have o4 := h4.frame (ok_str w0) (fr (fun i hi e => hb1 (e ▸ hi)) fun i hi => (h4.dom (ok_str w0) i hi).2)
    have o5 := h5.frame (ok_rt w0 n) (fr (fun i hi e => hb2 (e ▸ hi)) fun i hi => (h5.dom (ok_rt w0 n) i hi).2)
    rw [show ((k' + 2 : Nat) : Int) + 1 = ((k' + 3 : Nat) : Int) by omega]
    refine markStringS o4 (by omega) fun s3 k3 o4' => ?_
    obtain ⟨r2, hr2, hc2⟩ := hs2b
    have hr3 := k3 b r2 hr2 hb1
    have hd12 : ∀ i, i ∈ F2 → i ∉ F1 := fun i hi hi' => (List.nodup_append.1 hnd).2.2 i hi' i hi rfl
    have o5' := o5.frame (ok_rt w0 n) (k3.at (fun i hi => (o5.dom (ok_rt w0 n) i hi).2) hd12)
    refine hix _ ?_
    refine field_load hb hr3 hc2 hA (y := w) (by rw [← hcs]; rfl) fun g2 hg2 => ?_
    rw [hg2]
    refine ih n (by omega) o5' (by omega) fun s4 k4 o5'' => ?_
    have hr4 := k4 b r2 hr3 hb2
    have o4'' := o4'.frame (ok_str w0) (k4.at (fun i hi => (o4'.dom (ok_str w0) i hi).2) fun i hi hi' => hd12 i hi' hi)
    rw [pBin_add (by have := h.1; omega)]
    have kf1 : ∀ i, i ∈ F1 → i ∈ F := fun i hi => (hf i (List.mem_append_left _ hi)).1
    have kf2 : ∀ i, i ∈ F2 → i ∈ F := fun i hi => (hf i (List.mem_append_right _ hi)).1
    have := hK s4 (kb2.trans ((k3.mono kf1).trans (k4.mono kf2))) (hput s4 cs (mkT (n + 1) k' (.mk d m t ns ks)) r2 hr4 hc2 ?_ ?_)
    · simp only [cT] at this
      rw [show (k' + (3 + ns.length + sumBy (cT n) ks) : Nat) = k' + 3 + ns.length + sumBy (cT n) ks by omega] at this
      exact this
    · refine ⟨u, w, F1, F2, by rw [← hcs]; simp, ⟨by omega, by omega⟩, mtext_size (by omega), o4'', o5'', rfl, hnd⟩
    · intro i hi hne hif
      have d := hO.dom (ok_rt w0 (n + 1)) i hi
      cases hs : s i with
      | none => exact absurd hs d.2
      | some ri => exact k4 i ri (k3 i ri (hs2o i hne ri hs) fun e => hif (List.mem_append_left _ e)) fun e => hif (List.mem_append_right _ e)

theorem markTree {n : Nat} {F : List Nat} {es : List Value} {x : Tr} {k : Nat} {R : Value → Vw → Prop} (h : OT w0 n σ F es x) (hk : k + cT n x ≤ 1000000000000) (hR : ∀ σ', KeepsBut F σ σ' → (k : Int) ≤ ((k + cT n x : Nat) : Int) → R (.int .i64 ((k + cT n x - 3 : Nat) : Int)) σ') : AC Tryd.prog w0 n_laws_markTree [.agg ⟨es⟩, .int .i64 (k : Nat)] σ R := by
  obtain _ | n := n
  · exact h.elim
  obtain ⟨d, m, t, ns, ks⟩ := x
  obtain ⟨u, w, F1, F2, rfl, h2, h3, h4, h5, rfl, hnd⟩ := h
  refine ac_laws_markTree ?_
  unfold vc_laws_markTree
  rw [pVal_5 rfl rfl rfl (OSl.one' h4) (OSl.one' h5)]
  simp only [cellOf_agg, List.getD_cons_zero, List.getD_cons_succ]
  simp only [cT] at hk hR
  refine markStringS h4 (by omega) fun s3 k3 o4' => ?_
  have hd12 : ∀ i, i ∈ F2 → i ∉ F1 := fun i hi hi' => (List.nodup_append.1 hnd).2.2 i hi' i hi rfl
  have o5' := h5.frame (ok_rt w0 n) (k3.at (fun i hi => (h5.dom (ok_rt w0 n) i hi).2) hd12)
  refine markTreeS n o5' (by omega) fun s4 k4 o5'' => ?_
  have := hR s4 ((k3.mono fun i hi => List.mem_append_left _ hi).trans (k4.mono fun i hi => List.mem_append_right _ hi)) (by omega)
  rw [show (k + (3 + ns.length + sumBy (cT n) ks) - 3 : Nat) = k + ns.length + sumBy (cT n) ks by omega] at this
  exact this
end
end Go.Proofs.YtlbpnfhhoalenaaDoor

/- Rows of a table: comparison, marks; 'TableMake': part by part, by either hand. -/
set_option linter.unusedVariables false
set_option linter.unusedSimpArgs false
set_option maxRecDepth 20000
namespace Go.Proofs.YtlbpnfhhoalenaaDoor
open Go Go.Av

/-- A row: a path, a bool, a number, bytes, a number. -/
abbrev Ro := List ByteArray × Bool × Int × ByteArray × Int
def roOk (x : Ro) : Prop := (-9223372036854775808 ≤ x.2.2.1 ∧ x.2.2.1 ≤ 9223372036854775807) ∧ x.2.2.2.1.size ≤ 9223372036854775807 ∧ (-9223372036854775808 ≤ x.2.2.2.2 ∧ x.2.2.2.2 ≤ 9223372036854775807)
def RRo (rd : Addr → Option Value) (es : List Value) (x : Ro) : Prop := ∃ v, es = [v, .bool x.2.1, .int .i64 x.2.2.1, .string x.2.2.2.1, .int .i64 x.2.2.2.2] ∧ RSl 1 RS rd v x.1 ∧ roOk x
def ORo (w0 : World) (σ : Vw) (F : List Nat) (es : List Value) (x : Ro) : Prop := ∃ v, es = [v, .bool x.2.1, .int .i64 x.2.2.1, .string x.2.2.2.1, .int .i64 x.2.2.2.2] ∧ OStrs w0 σ F v x.1 ∧ roOk x
def cRo (x : Ro) : Nat := x.1.length + 4
noncomputable def mkRo (k : Nat) (x : Ro) : Ro := (mkTexts k x.1, decide (((k + x.1.length : Nat) : Int) % 3 = 0), ((k + x.1.length + 1 : Nat) : Int), mtext (k + x.1.length + 2), ((k + x.1.length + 3 : Nat) : Int))
/-- The row of a part. -/
def fRow (n : Nat) (ps : List ByteArray) (x : Tr) : Ro := (ps, isDir x, modeOf x, dataOf x, ((idB (lineT ⟨#[47]⟩ x ++ belowT n ⟨#[]⟩ x) : Nat) : Int))
theorem idB_lt (s : ByteArray) : idB s < 1000000007 := idL_lt _ _ (by omega)

section
variable {w0 : World} {σ : Vw}

theorem ok_ro (w0 : World) : OOk w0 5 RRo (ORo w0) := by
  refine ⟨?_, ?_, ?_, ?_, ?_, ?_⟩
  · rintro σ F es x ⟨v, h1, h2, h3⟩; exact ⟨v, h1, h2.rel (ok_str w0), h3⟩
  · rintro σ σ' F es x ⟨v, h1, h2, h3⟩ hF; exact ⟨v, h1, h2.frame (ok_str w0) hF, h3⟩
  · rintro σ F es x ⟨v, h1, h2, h3⟩; exact h2.dom (ok_str w0)
  · rintro σ F es x ⟨v, h1, h2, h3⟩; exact h2.2.1
  · rintro σ F es x ⟨v, rfl, h2, h3⟩; rfl
  · rintro σ F es x ⟨v, rfl, h2, h3⟩ c hc
    simp at hc
    rcases hc with rfl | rfl | rfl | rfl | rfl
    · exact OSl.one' h2
    · rfl
    · rfl
    · rfl
    · rfl
theorem mono_ro {rd rd' : Addr → Option Value} {es : List Value} {x : Ro} (hl : Le rd rd') (h : RRo rd es x) : RRo rd' es x := by
  obtain ⟨v, h1, h2, h3⟩ := h; exact ⟨v, h1, h2.mono hl fun _ _ h => h, h3⟩

theorem eqRow {es es' : List Value} {x y : Ro} {R : Value → Vw → Prop} (h : RRo (Av.get w0 σ) es x) (h' : RRo (Av.get w0 σ) es' y) (hR : R (.bool (decide (x = y))) σ) : AC Tryd.prog w0 n_laws_eqRow [.agg ⟨es⟩, .agg ⟨es'⟩] σ R := by
  obtain ⟨p, d, a, t, k⟩ := x
  obtain ⟨p', d', a', t', k'⟩ := y
  obtain ⟨v, rfl, hv, _⟩ := h
  obtain ⟨v', rfl, hv', _⟩ := h'
  refine ac_laws_eqRow ?_
  unfold vc_laws_eqRow
  rw [pVal_5 hv.one rfl rfl rfl rfl, pVal_5 hv'.one rfl rfl rfl rfl]
  simp only [cellOf_agg, List.getD_cons_zero, List.getD_cons_succ]
  have no : ¬ ((p, d, a, t, k) : Ro) = (p', d', a', t', k') → R (.bool false) σ := fun h => by rw [decide_eq_false h] at hR; exact hR
  have eb : ∀ K : Value → Prop, pBin Tryd.prog 4 .neq (.bool d) (.bool d') K ↔ K (.bool !(d == d')) := fun K => pBin_b (by kernel_rfl) rfl
  refine eqStringS hv hv' ?_
  rw [pUn_not, pIf_b]
  refine ⟨fun e => no (fun h => by simp at h e; exact e h.1), fun e1 => ?_⟩
  rw [eb, pIf_b]
  refine ⟨fun e => no (fun h => by simp at h e; exact e h.2.1), fun e3 => ?_⟩
  rw [pBin_ne, pIf_d]
  refine ⟨fun e => no (fun h => e (by simp at h; exact h.2.2.1)), fun e2 => ?_⟩
  rw [pBin_sne, pIf_d]
  refine ⟨fun e => no (fun h => e (by simp at h; exact h.2.2.2.1)), fun e5 => ?_⟩
  rw [pBin_ne, pIf_d]
  refine ⟨fun e => no (fun h => e (by simp at h; exact h.2.2.2.2)), fun e4 => ?_⟩
  have : ((p, d, a, t, k) : Ro) = (p', d', a', t', k') := by
    simp at e1 e3
    rw [e1, Decidable.not_not.1 e2, e3, Decidable.not_not.1 e4, Decidable.not_not.1 e5]
  rw [decide_eq_true this] at hR; exact hR

theorem eqRowS {v v' : Value} {xs ys : List Ro} (h : RSl 5 RRo (Av.get w0 σ) v xs) (h' : RSl 5 RRo (Av.get w0 σ) v' ys) {R : Value → Vw → Prop} (hR : R (.bool (decide (xs = ys))) σ) : AC Tryd.prog w0 n_laws_eqRowS [v, v'] σ R := by
  refine ac_laws_eqRowS ?_
  have e : vc_laws_eqRowS w0 v v' σ R = VeqS Tryd.prog w0 3 5 n_laws_eqRow v v' σ R := by kernel_rfl
  rw [e]
  exact eqS_gen (fun x _ y es es' R' h h' hR => eqRow h h' hR) h h' hR

theorem markRowS {F : List Nat} {v : Value} {xs : List Ro} {k : Nat} (h : OSl w0 5 (ORo w0) σ F v xs) (hk : k + sumBy cRo xs ≤ 1000000000000) {R : Value → Vw → Prop}
    (hR : ∀ σ', KeepsBut F σ σ' → OSl w0 5 (ORo w0) σ' F v (mkS mkRo cRo k xs) → R (.int .i64 ((k + sumBy cRo xs : Nat) : Int)) σ') : AC Tryd.prog w0 n_laws_markRowS [v, .int .i64 (k : Nat)] σ R := by
  refine ac_laws_markRowS ?_
  unfold vc_laws_markRowS
  refine mark_loop (ok_ro w0) (mk := mkRo) (cnt := cRo) h hk ?_ hR
  intro j x k' s ys K hj hlen hkb hx hk' hO hyj hK
  simp only [vget, List.getD_cons_zero, List.getD_cons_succ]
  obtain ⟨b, o, f, c, A, C, r, hix, hb, hr, hc, hA, hOx, hbF, hf, hput⟩ := hO.focus (ok_ro w0) hyj
  obtain ⟨p, d, a, t, q⟩ := x
  obtain ⟨u, rfl, h4, _⟩ := hOx
  simp only [cRo] at hk' hK h4
  have hb1 : b ∉ f := fun e => (hf b e).2 rfl
  refine hix _ ?_
  refine field_load hb hr hc hA (y := u) rfl fun g hg => ?_
  rw [hg]
  refine markStringS h4 (by omega) fun s3 k3 o4' => ?_
  have hr3 := k3 b r hr hb1
  rw [pBin_rem (by omega), pBin_eq]
  refine hix _ ?_
  refine field_store hr3 hc hA (by show 1 < 5; omega) rfl ?_
  simp only [List.set_cons_zero, List.set_cons_succ]
  rw [pBin_add (by omega)]
  refine hix _ ?_
  refine field_store put_at rfl hA (by show 2 < 5; omega) rfl ?_
  simp only [List.set_cons_zero, List.set_cons_succ]
  rw [put_put, pBin_add (by omega)]
  rw [show ((k' + p.length : Nat) : Int) + 1 + 1 = ((k' + p.length + 2 : Nat) : Int) by omega]
  refine markText (k := k' + p.length + 2) (by omega) fun s5 k5 => ?_
  refine hix _ ?_
  refine field_store (k5 _ _ put_at) rfl hA (by show 3 < 5; omega) rfl ?_
  simp only [List.set_cons_zero, List.set_cons_succ]
  rw [pBin_add (by omega)]
  refine hix _ ?_
  refine field_store put_at rfl hA (by show 4 < 5; omega) rfl ?_
  simp only [List.set_cons_zero, List.set_cons_succ]
  rw [put_put, pBin_add (by omega), pBin_add (by have := h.1; omega)]
  have kf : ∀ i, i ∈ f → i ∈ F := fun i hi => (hf i hi).1
  rw [show ((k' + p.length + 2 : Nat) : Int) + 1 = ((k' + p.length + 3 : Nat) : Int) by omega, show ((k' + p.length : Nat) : Int) + 1 = ((k' + p.length + 1 : Nat) : Int) by omega]
  generalize hs4 : s5.put b _ = s4
  have hs4b : ∃ r2, s4 b = some r2 ∧ r2.cells = A ++ ([u, Value.bool (decide (((k' + p.length : Nat) : Int) % 3 = 0)), Value.int .i64 ((k' + p.length + 1 : Nat) : Int), Value.string (mtext (k' + p.length + 2)), Value.int .i64 ((k' + p.length + 3 : Nat) : Int)] ++ C) := by rw [← hs4]; exact ⟨_, put_at, rfl⟩
  have hs4o : ∀ i, i ≠ b → ∀ ri, s3 i = some ri → s4 i = some ri := fun i hi ri hri => by
    rw [← hs4]
    simp only [Vw.put, hi, if_false]
    exact k5 i ri (by simp [Vw.put, hi, hri])
  clear hs4
  obtain ⟨r2, hr2, hc2⟩ := hs4b
  have o5 := o4'.frame (ok_str w0) (σ' := s4) fun i hi => by
    cases hs : s3 i with
    | none => exact absurd hs (o4'.dom (ok_str w0) i hi).2
    | some ri => exact hs4o i (fun e => hb1 (e ▸ hi)) ri hs
  have kb : KeepsBut F s s4 := fun i ri hri hiF => hs4o i (fun e => hiF (e ▸ hbF)) ri (k3 i ri hri fun e => hiF (kf i e))
  have := hK s4 kb (hput s4 _ (mkRo k' (p, d, a, t, q)) r2 hr2 hc2 ⟨u, rfl, o5, ?_⟩ fun i hi hne hif => ?_)
  · rw [show (k' + (p.length + 4) : Nat) = k' + p.length + 3 + 1 by omega] at this
    exact this
  · refine ⟨?_, ?_, ?_⟩
    · show -9223372036854775808 ≤ ((k' + p.length + 1 : Nat) : Int) ∧ ((k' + p.length + 1 : Nat) : Int) ≤ 9223372036854775807; omega
    · exact mtext_size (k := k' + p.length + 2) (by omega)
    · show -9223372036854775808 ≤ ((k' + p.length + 3 : Nat) : Int) ∧ ((k' + p.length + 3 : Nat) : Int) ≤ 9223372036854775807; omega
  · have dd := hO.dom (ok_ro w0) i hi
    cases hs : s i with
    | none => exact absurd hs dd.2
    | some ri => exact hs4o i hne ri (k3 i ri hs hif)

theorem heldRowS {v : Value} {xs : List Ro} {k : Nat} (h : RSl 5 RRo (Av.get w0 σ) v (mkS mkRo cRo k xs)) (hk : k + sumBy cRo xs ≤ 1000000000000) {R : Value → Vw → Prop}
    (hR : ∀ σ', Keeps σ σ' → R (.int .i64 ((k + sumBy cRo xs : Nat) : Int)) σ') : AC Tryd.prog w0 n_laws_heldRowS [v, .int .i64 (k : Nat)] σ R := by
  refine ac_laws_heldRowS ?_
  unfold vc_laws_heldRowS
  refine held_loop (n := 5) (Rel := RRo) (fun _ _ _ _ hl h => mono_ro hl h) (mk := mkRo) (cnt := cRo) h hk ?_ hR
  intro j x k' s K hj hkb hx hk' hrd hyj hK
  have hl := h.le
  rw [mkS_len] at hl
  obtain ⟨p, d, a, t, q⟩ := x
  simp only [cRo] at hk' hK
  simp only [vget, List.getD_cons_zero, List.getD_cons_succ]
  refine hrd.atf hyj 0 (by omega) fun es g h1 hg => ?_
  obtain ⟨u, rfl, h2, _⟩ := h1
  simp only [List.getElem?_cons_zero, List.getElem?_cons_succ, Option.some.injEq] at hg
  rw [← hg]
  have h2 : RSl 1 RS (Av.get w0 s) u (mkTexts k' p) := h2
  refine heldStringS h2 (by omega) fun s1 k1 => ?_
  rw [pBin_lt, pIf_d]
  refine ⟨fun h => by omega, fun _ => ?_⟩
  have hrd1 := hrd.mono k1.le fun es x => mono_ro k1.le
  refine hrd1.atf hyj 1 (by omega) fun es g h1 hg => ?_
  obtain ⟨u', rfl, _⟩ := h1
  simp only [List.getElem?_cons_zero, List.getElem?_cons_succ, Option.some.injEq] at hg
  rw [← hg, pBin_rem (by omega), pBin_eq, pBin_b (v := .bool false) (by kernel_rfl) (by simp [mkRo]), pIf_b]
  refine ⟨nofun, fun _ => ?_⟩
  rw [pBin_add (by omega), show ((k' + p.length : Nat) : Int) + 1 = ((k' + p.length + 1 : Nat) : Int) by omega]
  refine hrd1.atf hyj 2 (by omega) fun es g h1 hg => ?_
  obtain ⟨u', rfl, _⟩ := h1
  simp only [List.getElem?_cons_zero, List.getElem?_cons_succ, Option.some.injEq] at hg
  rw [← hg, pBin_ne, pIf_d]
  refine ⟨fun h => absurd rfl h, fun _ => ?_⟩
  rw [pBin_add (by omega), show ((k' + p.length + 1 : Nat) : Int) + 1 = ((k' + p.length + 2 : Nat) : Int) by omega]
  refine hrd1.atfp hyj 3 (by omega) fun qq es g h1 hg => ?_
  obtain ⟨u', rfl, _⟩ := h1
  simp only [List.getElem?_cons_zero, List.getElem?_cons_succ, Option.some.injEq] at hg
  refine markText (k := k' + p.length + 2) (by omega) fun s2 k2 => ⟨k2.stay, ?_⟩
  rw [← hg, pBin_sne, pIf_d]
  refine ⟨fun h => absurd rfl h, fun _ => ?_⟩
  rw [pBin_add (by omega), show ((k' + p.length + 2 : Nat) : Int) + 1 = ((k' + p.length + 3 : Nat) : Int) by omega]
  have hrd2 := hrd1.mono k2.le fun es x => mono_ro k2.le
  refine hrd2.atf hyj 4 (by omega) fun es g h1 hg => ?_
  obtain ⟨u', rfl, _⟩ := h1
  simp only [List.getElem?_cons_zero, List.getElem?_cons_succ, Option.some.injEq] at hg
  rw [← hg, pBin_ne, pIf_d]
  refine ⟨fun h => absurd rfl h, fun _ => ?_⟩
  rw [pBin_add (by omega), pBin_add (by omega)]
  have := hK s2 (k1.trans k2)
  rw [show (k' + (p.length + 4) : Nat) = k' + p.length + 3 + 1 by omega] at this
  exact this

/-! ### By the reference's hand -/
theorem spec_l31Of {n : Nat} {es : List Value} {x : Tr} (h : RT n (Av.get w0 σ) es x) (hn : n ≤ 100000) (hx : shortT n x) (hc : cntT n x ≤ 100000) {R : Value → Vw → Prop} (hR : ∀ σ', Keeps σ σ' → R (.int .i64 (idB (lineT ⟨#[47]⟩ x ++ belowT n ⟨#[]⟩ x) : Nat)) σ') : AC Tryd.prog w0 n_spec_l31Of [.agg ⟨es⟩] σ R := by
  have h0 := h
  obtain ⟨e0, e1, e2, e3, e4, rfl, _, hpv⟩ := RT.five h
  have a1 : (⟨#[47]⟩ : ByteArray).size = 1 := rfl
  have a0 : (⟨#[]⟩ : ByteArray).size = 0 := rfl
  have hls := line_size hx ⟨#[47]⟩
  have hbs := below_size n x ⟨#[]⟩ hx (by omega)
  refine ac_spec_l31Of ?_
  unfold vc_spec_l31Of
  rw [hpv]
  simp only [cellOf_agg, List.getD_cons_zero, List.getD_cons_succ]
  refine spec_l1Line h0 hx (by omega) fun s1 k1 => ?_
  refine spec_l1Show n (mono_rt n _ _ _ _ k1.le h0) hx (by omega) (by omega) fun s2 k2 => ?_
  rw [pBin_cat (by omega)]
  refine spec_l31Id (by rw [ByteArray.size_append]; omega) ?_
  exact hR s2 (k1.trans k2)

theorem spec_rows (n : Nat) : n ≤ 5 → Lists w0 n_spec_l31Rows t_impl_Row (ORo w0) fRow n := by
  induction n with
  | zero => intro _ σ v es ps x R _ h; exact h.elim
  | succ n ih =>
    intro hn5 σ v es ps x R hv h hx hc hps hR
    obtain ⟨d, m, t, ns, ks⟩ := x
    have h0 := h
    have hx0 := hx
    obtain ⟨u, w, rfl, h2, h3, h4, h5⟩ := h
    obtain ⟨hm, ht, hl, hns, hks⟩ := hx
    have hcnt : cntT (n + 1) (.mk d m t ns ks) = ks.length + sumBy (cntT n) ks := rfl
    refine ac_spec_l31Rows ?_
    unfold vc_spec_l31Rows
    rw [pVal_5 rfl rfl rfl h4.one h5.one]
    simp only [cellOf_agg, List.getD_cons_zero, List.getD_cons_succ]
    refine copy_strs hv (by omega) fun v1 P s1 k1 o1 f1 => ?_
    refine spec_l31Of (mono_rt _ _ _ _ _ k1.le h0) (by omega) hx0 hc fun s2 k2 => ?_
    have o2 := o1.frame (ok_str w0) (k2.but_at fun b hb => (o1.dom (ok_str w0) b hb).2)
    rw [pVal1 (OSl.one' o2), pVal1 rfl, pVal1 rfl, pVal1 rfl, pVal1 rfl, pVal_5 (OSl.one' o2) rfl rfl rfl rfl]
    intro b hb1 hb2
    have hid := idB_lt (lineT ⟨#[47]⟩ (.mk d m t ns ks) ++ belowT (n + 1) ⟨#[]⟩ (.mk d m t ns ks))
    have hone : ORo w0 s2 P [v1, .bool d, .int .i64 m, .string t, .int .i64 ((idB (lineT ⟨#[47]⟩ (.mk d m t ns ks) ++ belowT (n + 1) ⟨#[]⟩ (.mk d m t ns ks)) : Nat) : Int)] (fRow (n + 1) ps (.mk d m t ns ks)) :=
      ⟨v1, rfl, o2, h2, h3, by simp only [fRow]; omega⟩
    have hacc := OAcc.single (ok_ro w0) (ety := t_impl_Row) hb1 hb2 hone
    have K3 := (k1.trans k2).trans (Keeps.put (r := ⟨t_impl_Row, [v1, .bool d, .int .i64 m, .string t, .int .i64 ((idB (lineT ⟨#[47]⟩ (.mk d m t ns ks) ++ belowT (n + 1) ⟨#[]⟩ (.mk d m t ns ks)) : Nat) : Int)], 5, (0, 0)⟩) hb2)
    refine lin_loop (σ := σ) (ok_ro w0) (ih (by omega)) hv h4 h5 hl hns hks (by omega) hps hacc K3 (fun i hi => ?_) fun v' G' s' k' o' f' => ?_
    · rcases List.mem_cons.1 hi with rfl | hi
      · exact none_old (k1.trans k2) hb2
      · exact f1 i hi
    · exact hR v' G' s' k' o' f'

noncomputable def tableX (n : Nat) (x : Tr) : List Ro := if treeOk n x = true then linT fRow 5 [] x else []
theorem spec_TableMake {n : Nat} {es : List Value} {x : Tr} (h : RT n (Av.get w0 σ) es x) (hb : cntT n x ≤ 1000000000000) {R : Value → Vw → Prop}
    (hR : ∀ v F σ', Keeps σ σ' → OSl w0 5 (ORo w0) σ' F v (tableX n x) → (∀ i, i ∈ F → σ i = none) → R v σ') : AC Tryd.prog w0 n_spec_TableMake [.agg ⟨es⟩] σ R := by
  have h0 := h
  obtain ⟨e0, e1, e2, e3, e4, rfl, _, hpv⟩ := RT.five h
  refine ac_spec_TableMake ?_
  unfold vc_spec_TableMake
  rw [hpv]
  simp only [cellOf_agg, List.getD_cons_zero, List.getD_cons_succ]
  refine spec_TreeOk h0 hb (pNotIf.2 ⟨fun hno => ?_, fun hok => ?_⟩)
  · intro b hb1 hb2
    refine hR _ [b] _ (Keeps.put hb2) ?_ fun i hi => by rw [List.mem_singleton.1 hi]; exact hb2
    rw [tableX, if_neg (by rw [hno]; simp)]
    exact (OAcc.new (O := ORo w0) hb1).osl
  · obtain ⟨hdn, hx, hc⟩ := ok_parts hok
    intro b hb1 hb2
    have k1 : Keeps σ (σ.put b ⟨t_string, [], 0, (0, 0)⟩) := Keeps.put hb2
    have hp : RSl 1 RS (Av.get w0 (σ.put b ⟨t_string, [], 0, (0, 0)⟩)) (.slice (some ⟨b, 0, none⟩) 0 0) [] := (OAcc.new (w0 := w0) (σ := σ) (ety := t_string) (n := 1) (O := OStr) hb1).osl.rel (ok_str w0)
    refine spec_rows 5 (by omega) hp (mono_rt 5 _ _ _ _ k1.le (hdn _ _ h0)) hx (by omega) (by simp [sumS]) fun v G s2 k2 o2 f2 => ?_
    refine hR v G s2 (k1.trans k2) ?_ fun i hi => none_old k1 (f2 i hi)
    rw [tableX, if_pos hok]
    exact o2.osl

/-! ### By the program's hand -/
theorem table_puts (tab : Tab w0) : Puts w0 n_impl_Tree_table_c1 t_impl_Row (ORo w0) fRow := by
  intro n b s G ps v es x xs R hn5 h hx hc hv hps hB hl hR
  obtain ⟨hb, hbG, u, e2, hr, ho⟩ := hB
  have h0 := h
  obtain ⟨q1, q2, rfl, hm, ht, _, _, hpv⟩ := h.cells
  refine ac_impl_Tree_table_c1 ?_
  unfold vc_impl_Tree_table_c1
  rw [hpv]
  simp only [cellOf_agg, List.getD_cons_zero, List.getD_cons_succ]
  refine load_row hb hr rfl fun g hg => ?_
  rw [hg]
  intro n1 h1 h2
  have kb : Keeps s (s.put n1 ⟨t_string, [], 0, (0, 0)⟩) := Keeps.put h2
  have hb0 : ∀ i, i ∈ [n1] → s i = none := fun i hi => by rw [List.mem_singleton.1 hi]; exact h2
  refine ⟨stay_row hb hr (kb _ _ hr), ?_⟩
  refine (OAcc.new (w0 := w0) (σ := s) (ety := t_string) (n := 1) (O := OStr) h1).all (ok_str w0) hv kb.le (fun es y hy => ⟨rfl, hy⟩) (by simp; omega) (by omega) fun v3 P s4 k4 o4 f4 => ?_
  have K4 : Keeps s s4 := k4.old kb hb0
  have hP := fresh_in kb hb0 f4
  refine ⟨stay_row hb (kb _ _ hr) (K4 _ _ hr), ?_⟩
  refine impl_Tree_id tab (mono_rt _ _ _ _ _ K4.le h0) (by omega) hx hc fun s6 k6 => ⟨stay_row hb (K4 _ _ hr) (k6 _ _ (K4 _ _ hr)), ?_⟩
  have K6 := K4.trans k6
  have o6 := o4.osl.frame (ok_str w0) (k6.but_at fun b hb => (o4.dom (ok_str w0) b hb).2)
  rw [List.nil_append] at o6
  have hid := idB_lt (lineT ⟨#[47]⟩ x ++ belowT n ⟨#[]⟩ x)
  rw [pVal1 (OSl.one' o6), pVal1 rfl, pVal1 rfl, pVal1 rfl, pVal1 rfl, pVal_5 (OSl.one' o6) rfl rfl rfl rfl]
  refine box_push (ok_ro w0) (y := fRow n ps x) hb hbG (K6 _ _ hr) (ho.frame (ok_ro w0) (K6.but_at fun i hi => (ho.dom (ok_ro w0) i hi).2)) ⟨v3, rfl, o6, hm, ht, by simp only [fRow]; omega⟩ (fun i hi hi' => ?_) hl fun G' s' kk hB' f' => ?_
  · have := hP i hi
    rcases List.mem_cons.1 hi' with rfl | hi'
    · rw [hr] at this; cases this
    · exact (ho.dom (ok_ro w0) i hi').2 this
  · refine hR G' s' (fun i r hi hn => kk i r (K6 i r hi) hn) hB' fun i hi => ?_
    rcases f' i hi with h | h | h
    · exact .inl h
    · exact .inr (hP i h)
    · exact .inr (none_old K6 h)

theorem impl_table (tab : Tab w0) {n : Nat} {es : List Value} {x : Tr} (h : RT n (Av.get w0 σ) es x) (hn : n ≤ 5) (hx : shortT n x) (hc : cntT n x ≤ 100000) {R : Value → Vw → Prop}
    (hR : ∀ v G σ', Keeps σ σ' → OAcc w0 t_impl_Row 5 (ORo w0) σ' G v (linT fRow n [] x) → (∀ i, i ∈ G → σ i = none) → R v σ') : AC Tryd.prog w0 n_impl_Tree_table [.agg ⟨es⟩] σ R := by
  have h0 := h
  obtain ⟨e0, e1, e2, e3, e4, rfl, _, hpv⟩ := RT.five h
  refine ac_impl_Tree_table ?_
  unfold vc_impl_Tree_table
  rw [hpv]
  simp only [cellOf_agg, List.getD_cons_zero, List.getD_cons_succ]
  refine box_new (O := ORo w0) fun b b0 s1 k1 hB hb hb0 => ?_
  have hf : ∀ i, i ∈ [b, b0] → σ i = none := fun i hi => by
    simp at hi
    rcases hi with rfl | rfl
    · exact hb
    · exact hb0
  refine each_list (ok_ro w0) (table_puts tab) n (σ0 := σ) (ps := []) hn h0 hx hc k1 hf hB nil_in (by simp only [List.length_nil, sumS]; omega) (by simp only [List.length_nil]; omega) fun G' s2 k2 hB2 f2 => ?_
  refine box_read (K := fun v => R v s2) hB2 fun v ho => ?_
  rw [List.nil_append] at ho
  refine hR v G' s2 (k2.old k1 hf) ho fun i hi => ?_
  rcases f2 i hi with h | h
  · exact hf i (List.mem_cons_of_mem _ h)
  · exact none_old k1 h

theorem impl_TableMake (tab : Tab w0) {n : Nat} {es : List Value} {x : Tr} (h : RT n (Av.get w0 σ) es x) (hb : cntT n x ≤ 1000000000000) {R : Value → Vw → Prop}
    (hR : ∀ v F σ', Keeps σ σ' → OSl w0 5 (ORo w0) σ' F v (tableX n x) → (∀ i, i ∈ F → σ i = none) → R v σ') : AC Tryd.prog w0 n_impl_TableMake [.agg ⟨es⟩] σ R := by
  have h0 := h
  obtain ⟨e0, e1, e2, e3, e4, rfl, _, hpv⟩ := RT.five h
  refine ac_impl_TableMake ?_
  unfold vc_impl_TableMake
  rw [hpv]
  simp only [cellOf_agg, List.getD_cons_zero, List.getD_cons_succ]
  refine impl_TreeOk h0 hb (pNotIf.2 ⟨fun hno => ?_, fun hok => ?_⟩)
  · intro b hb1 hb2
    refine hR _ [b] _ (Keeps.put hb2) ?_ fun i hi => by rw [List.mem_singleton.1 hi]; exact hb2
    rw [tableX, if_neg (by rw [hno]; simp)]
    exact (OAcc.new (O := ORo w0) hb1).osl
  · obtain ⟨hdn, hx, hc⟩ := ok_parts hok
    refine impl_table tab (hdn _ _ h0) (by omega) hx (by omega) fun v G s2 k2 o2 f2 => ?_
    refine hR v G s2 k2 ?_ f2
    rw [tableX, if_pos hok]
    exact o2.osl

theorem tableX_sum {n : Nat} {x : Tr} : sumBy cRo (tableX n x) ≤ 1000 := by
  unfold tableX
  split
  · rename_i hok
    obtain ⟨_, _, hc⟩ := ok_parts hok
    have h1 := linT_len fRow 5 [] x
    have h2 : sumBy cRo (linT fRow 5 [] x) ≤ 9 * (linT fRow 5 [] x).length := sumBy_bound fun y hy => by
      obtain ⟨m, qs, z, rfl, hq, _⟩ := lin_mem 5 [] x hy
      simp only [List.length_nil] at hq
      simp only [cRo, fRow]; omega
    omega
  · simp [sumBy]

theorem law_TableMake (tab : Tab w0) {n : Nat} {es : List Value} {x : Tr} (h : RT n (Av.get w0 σ) es x) {R : Value → Vw → Prop} (hR : ∀ σ', R (.bool true) σ') : AC Tryd.prog w0 n_laws_FnExactTableMake [.agg ⟨es⟩] σ R := by
  have h0 := h
  obtain ⟨e0, e1, e2, e3, e4, rfl, _, hpv⟩ := RT.five h
  refine ac_laws_FnExactTableMake ?_
  unfold vc_laws_FnExactTableMake
  rw [hpv]
  simp only [cellOf_agg, List.getD_cons_zero, List.getD_cons_succ]
  refine szTree n h0 (by omega) ?_
  rw [pBin_lt, pIf_d]
  refine ⟨fun _ => hR _, fun hb => ?_⟩
  rw [Av.left_neg] at hb
  have hsz : szT n x ≤ 1048576 := by omega
  have hfit := fit_of n x (by omega)
  have hcnt : cntT n x ≤ 1000000000000 := Nat.le_trans (cnt_le n x) (by omega)
  have hcT := cT_le n x
  have hsum := tableX_sum (n := n) (x := x)
  have ok := ok_rt w0 n
  refine toTree n h0 hfit fun es1 F1 s1 k1 o1 f1 => ?_
  refine spec_TableMake (ok.rel _ _ _ _ o1) hcnt fun wv Fw s3 k3 ow fw => ?_
  have hw := ow.rel (ok_ro w0)
  have K3 := k1.trans k3
  refine toTree n (mono_rt n _ _ _ _ K3.le h0) hfit fun es2 F2 s4 k4 o2 f2 => ?_
  have r2 := ok.rel _ _ _ _ o2
  obtain ⟨a2, b2, c2, d2, e2, rfl, q2, hp2⟩ := RT.five r2
  rw [hp2]
  simp only [cellOf_agg, List.getD_cons_zero, List.getD_cons_succ]
  refine impl_TableMake tab r2 hcnt fun gv Fg s6 k6 og fg => ?_
  have k36 := k4.trans k6
  refine eqRowS (og.rel (ok_ro w0)) (hw.mono k36.le fun _ _ => mono_ro k36.le) ?_
  rw [pUn_not, pIf_b]
  refine ⟨fun h => by simp at h, fun _ => ?_⟩
  have K6 := K3.trans k36
  refine toTree n (mono_rt n _ _ _ _ K6.le h0) hfit fun es3 F3 s7 k7 o3 f3 => ?_
  refine eqTree n (mono_rt n _ _ _ _ (k6.trans k7).le r2) (ok.rel _ _ _ _ o3) ?_
  rw [pUn_not, pIf_b]
  refine ⟨fun h => by simp at h, fun _ => ?_⟩
  -- the marks of the argument
  have o28 := ok.frame _ s7 _ _ _ o2 ((k6.trans k7).but_at fun b hb => (ok.dom _ _ _ _ o2 b hb).2)
  refine markTree (k := 1) o28 (by omega) fun s9 k9 _ => ?_
  rw [pBin_lt, pIf_d]
  refine ⟨fun h => by omega, fun _ => ?_⟩
  have k37 := k36.trans k7
  have kw9 : Keeps s3 s9 := k9.old k37 f2
  have g7 := og.frame (ok_ro w0) (k7.but_at fun b hb => (og.dom (ok_ro w0) b hb).2)
  have g9 := g7.frame (ok_ro w0) (k9.at (fun b hb => (g7.dom (ok_ro w0) b hb).2) fun b hb hb' => (ok.dom _ _ _ _ o2 b hb').2 (fg b hb))
  refine eqRowS (g9.rel (ok_ro w0)) (hw.mono kw9.le fun _ _ => mono_ro kw9.le) ?_
  rw [pUn_not, pIf_b]
  refine ⟨fun h => by simp at h, fun _ => ?_⟩
  refine markRowS (k := 1) g9 (by omega) fun s11 k11 g11 => ?_
  refine heldRowS (k := 1) (g11.rel (ok_ro w0)) (by omega) fun s12 k12 => ?_
  rw [pBin_lt, pIf_d]
  refine ⟨fun h => by omega, fun _ => ?_⟩
  rw [pBin_ne, pIf_d]
  refine ⟨fun h => absurd rfl h, fun _ => ?_⟩
  have g12 := g11.frame (ok_ro w0) (k12.but_at fun b hb => (g11.dom (ok_ro w0) b hb).2)
  have kw12 : Keeps s3 s12 := (k11.old kw9 fun b hb => none_old k4 (fg b hb)).trans k12
  have K12 : Keeps σ s12 := K3.trans kw12
  refine toTree n (mono_rt n _ _ _ _ K12.le h0) hfit fun es4 F4 s13 k13 o4 f4 => ?_
  refine impl_TableMake tab (ok.rel _ _ _ _ o4) hcnt fun hv Fh s15 k15 oh fh => ?_
  have k1215 := k13.trans k15
  have kw15 := kw12.trans k1215
  refine eqRowS (oh.rel (ok_ro w0)) (hw.mono kw15.le fun _ _ => mono_ro kw15.le) ?_
  rw [pUn_not, pIf_b]
  refine ⟨fun h => by simp at h, fun _ => ?_⟩
  have g15 := g12.frame (ok_ro w0) (k1215.but_at fun b hb => (g12.dom (ok_ro w0) b hb).2)
  refine heldRowS (k := 1) (g15.rel (ok_ro w0)) (by omega) fun s16 k16 => ?_
  rw [pBin_lt, pIf_d]
  refine ⟨fun h => by omega, fun _ => ?_⟩
  rw [pBin_ne, pIf_d]
  exact ⟨fun h => absurd rfl h, fun _ => hR _⟩
end
end Go.Proofs.YtlbpnfhhoalenaaDoor

/- The law FnExactTableMake holds: it returns true, and the input reads as it did. No condition. -/
namespace Go.Proofs.YtlbpnfhhoalenaaDoor.fnExactTableMake
open Go.ChangeShapes Go.WideShapes Go.ChangeAt Go.RowKit Go.Av
set_option linter.unusedVariables false
set_option linter.unusedSimpArgs false
theorem own : ownKnob Tryd.prog.godebug = none := by kernel_rfl
theorem laidOut : laidOutB Tryd.prog = true := by kernel_rfl
abbrev laidL : List (String × DataW Unit) := [("math/bits.deBruijn32tab", Rows.laid_math_bits_deBruijn32tab), ("math/bits.deBruijn64tab", Rows.laid_math_bits_deBruijn64tab), ("internal/strconv.uint64pow10", Rows.laid_internal_strconv_uint64pow10)]
theorem door_met (os : Os) (args : Array Value) : laidMetH Tryd.prog laidL ((World.doorLaid Tryd.prog 400 os).forCall (fun _ _ => 0) ⟨#[], args, []⟩).memory :=
  laidMetH_of_parts3 (fuel := 8) (laidMet_of_run' 8 (by kernel_rfl) (by kernel_rfl)) (by kernel_rfl) (by kernel_rfl)
theorem gPow : Tryd.prog.globalNamed "internal/strconv.uint64pow10" = some 3 := by kernel_rfl
theorem tab_of {W : World} (h : laidMetH Tryd.prog laidL W) : Tab W := by
  rw [MakeChecks.laidMetH_plain _ _ _ (by kernel_rfl)] at h
  have h3 := laidMet.tail (laidMet.tail h)
  have e : (Rows.laid_internal_strconv_uint64pow10 : DataW Unit) = Lib.tabData .u64 Lib.pow10Tab := by kernel_rfl
  rw [e] at h3
  have ht : Lib.TabIs Tryd.prog W "internal/strconv.uint64pow10" .u64 Lib.pow10Tab := Lib.tabIs_of_head (n := 20) (t := 159) (e := 144) gPow (by kernel_rfl) (by kernel_rfl) (by kernel_rfl) (by kernel_rfl) (by kernel_rfl) h3
  intro w hw
  refine var?_below hw gPow ?_ ht
  rcases Nat.lt_or_ge 3 W.heap.size with h' | h'
  · exact h'
  · simp [Lib.TabIs, World.var?, gPow, Array.getElem?_eq_none h'] at ht
set_option maxRecDepth 100000 in
theorem lifted (os : Os) (started : os.Started) (H : Type) (enc : TypeId × Value → H) :
    ReturnsInHanded {} Tryd.checked os 7 .any (fun w args => (Rows.fnExactTableMakeSpec.pre enc Tryd.prog Tryd.f7 [] false w args ∧ laidMetH Tryd.prog laidL w) ∧ sizedMet enc Tryd.prog Tryd.f7 (OpenSpec.ofChange Rows.fnExactTableMakeSpec) false w args)
      (Rows.fnExactTableMakeSpec.post enc Tryd.prog Tryd.f7 false true false false) := by
  refine returnsInHanded_of_change_and (C := Tryd.checked) (X := fun w _ => laidMetH Tryd.prog laidL w) (fun _ _ _ hh h => h.of_heap hh) own started (by kernel_rfl) Tryd.func7
    (ChangeSpec.witness_shaped (enc := enc) (C := Tryd.checked) (os := os) (X := fun w _ => laidMetH Tryd.prog laidL w) false (World.doorLaid Tryd.prog 400 os) #[.agg #[.bool false, .int .i64 0, .string ⟨#[]⟩, .slice none 0 0, .slice none 0 0]] 8 rfl (World.shaped_of_RefB (by kernel_rfl) (by kernel_rfl)) (by kernel_rfl) (by kernel_rfl) (by kernel_rfl) (door_met os _)) ?_
  intro W base args ds gs before hval0 hW _ _ hL _
  have hval : ∀ (j : Nat) t v, Tryd.f7.params[j]? = some t → args[j]? = some v → Value.okWide Tryd.prog W .any base t v := hval0
  have hW' := hW
  obtain ⟨p, q, hA0, hV, rfl, hfz, hnd⟩ := hW
  have hA : DataW.TrodAll enc Tryd.prog W 0 (fun _ => true) true Tryd.f7.params.toList args.toList ds p := hA0
  rw [Tryd.params7] at hA hval
  obtain ⟨v0, d0, rfl, rfl, h0⟩ := trodAll_one hA
  obtain ⟨rfl, rfl⟩ := trodVars_none hV
  have hT0 : Tryd.prog.underlying 25 = some (.struct (fsOf Tryd.prog 25)) := by kernel_rfl
  obtain ⟨c0, rfl, hc0⟩ := okWide_struct hT0 (hval 0 25 v0 rfl rfl)
  have h0k := h0
  obtain ⟨fuel0, hf0⟩ := h0
  clear hA0 hval0
  simp only [List.append_nil] at hW'
  have hlt : ∀ x ∈ p, x.block < W.heap.size := fun x hx => by simpa using hW'.lt x hx
  have hargs0 : ∀ (W' : World), Below W.heap.size W W' → DataW.Trod enc Tryd.prog W' 0 (fun b => decide (b < W.heap.size)) true 25 (.agg c0) d0 p :=
    fun W' hn => Below.trod laidOut (by kernel_rfl) (of_decide_eq_true (by kernel_rfl)) h0k hn hlt
  have hl0 : c0.toList.length = 5 := by rw [Array.length_toList, hc0]; kernel_rfl
  obtain ⟨x0, r0⟩ := open_tree fuel0 c0.toList _ hf0 hl0
  refine ((law_TableMake (tab_of hL) (R := fun v _ => v = .bool true) r0 (by intros; rfl)).calls).mono fun e W' ⟨v, σ', he, hv, bel⟩ => ?_
  subst he hv
  exact ⟨_, rfl, _, _, _, [], _, [], hW', trodAll_mk1 (shut_bool Tryd.underlying4 _), trodAll_mk1 (hargs0 W' bel), rfl, bel.frame _, fun h => by cases h⟩
theorem over : Rows.fnExactTableMakeRow.holds Tryd.pinned (OpenSpec.ofChange Rows.fnExactTableMakeSpec) :=
  OpenClaim.holds_of_wide 7 Tryd.f7 rfl rfl rfl rfl rfl rfl rfl ⟨rfl, rfl, rfl, rfl, rfl⟩ rfl rfl rfl rfl rfl (by kernel_rfl) Tryd.func7 (by kernel_rfl)
    (of_decide_eq_true (by kernel_rfl)) (by unfold Func.isWrapper; first | (rw [if_pos (by decide +kernel)]; kernel_rfl) | (rw [if_neg (by decide +kernel)]; exact ⟨rfl, rfl⟩))
    (fun os started H enc _ => lifted os started H enc)
/-- THE TIED CARD. -/
theorem proved : Rows.FnExactTableMakeCardSaid :=
  Claim7.holds_tied_plain_at .later [] [.data, .data, .data] true (true, "2dc6f0fa5595edc2491c4221c017d3846401702a22fd5fbb65ca198d9e99bf2b") true
    over (fun _ h => by cases h) (by kernel_rfl) (fun _ h => by cases h) fnExactTableMake_row_tie rfl ⟨rfl, rfl⟩ (by kernel_rfl) rfl
    (fun f fn hf hfn => by
      obtain rfl : f = 7 := Option.some.inj ((show Tryd.prog.funcNamed "loop.example/changetrail/laws.FnExactTableMake" = some 7 by kernel_rfl).symm.trans hf) |>.symm
      obtain rfl : fn = Tryd.f7 := (Option.some.inj (Tryd.func7.symm.trans hfn)).symm
      exact ⟨by kernel_rfl, fun j t ht => by
        rw [Tryd.params7] at ht
        have hm : t ∈ [25] := by simpa using Array.mem_of_getElem? ht
        have hall : ([25].all fun u => !Tryd.prog.wantsStandIn u) = true := by kernel_rfl
        exact (show Tryd.prog.wantsStandIn t = false by simpa using List.all_eq_true.1 hall t hm)⟩)
    (by kernel_rfl)
end Go.Proofs.YtlbpnfhhoalenaaDoor.fnExactTableMake
namespace Go.Proofs.YtlbpnfhhoalenaaDoor
/-- The row, under a short name, for the claim. -/
theorem fnExactTableMake_holds : Rows.FnExactTableMakeCardSaid := fnExactTableMake.proved
end Go.Proofs.YtlbpnfhhoalenaaDoor
