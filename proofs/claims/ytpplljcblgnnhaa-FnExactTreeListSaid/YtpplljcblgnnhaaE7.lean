/- Reading and listing: the functions 'TreeRead' and 'TreeList' by either text. -/
import Derived.Test.YtpplljcblgnnhaaE6
import Derived.Test.YtpplljcblgnnhaaE2
set_option linter.unusedVariables false
set_option linter.unusedSimpArgs false
namespace Go.Proofs.Ytpplljcblgnnhaa
open Go Go.Av

def kidsOf : Tr → List Tr
  | .mk _ _ _ _ ks => ks
def namesOf : Tr → List ByteArray
  | .mk _ _ _ ns _ => ns
def dataOf : Tr → ByteArray
  | .mk _ _ t _ _ => t
def modeOf : Tr → Int
  | .mk _ m _ _ _ => m
/-- What holds of a part and of all below. -/
def AllT (P : Tr → Prop) : Nat → Tr → Prop
  | 0, _ => True
  | n + 1, x => P x ∧ ∀ k, k ∈ kidsOf x → AllT P n k
theorem all_up {P : Tr → Prop} : ∀ {n : Nat} {rd : Addr → Option Value} {es : List Value} {x : Tr}, RT n rd es x → AllT P n x → AllT P (n + 1) x
  | 0, _, _, _, h, _ => h.elim
  | n + 1, rd, es, .mk d m t ns ks, h, hw => by
    obtain ⟨u, w, h1, h2, h3, h4, A, cap, _, _, h5⟩ := h
    refine ⟨hw.1, fun k hk => ?_⟩
    obtain ⟨j, hj⟩ := List.getElem?_of_mem hk
    obtain ⟨a, es', _, _, _, h6⟩ := h5 j k hj
    exact all_up h6 (hw.2 k hk)
/-- What can be read. -/
def IsT (n : Nat) (x : Tr) : Prop := ∃ rd es, RT n rd es x
theorem kid_mem {x : Tr} {nm : ByteArray} {k : Tr} (h : kidT x nm = some k) : k ∈ kidsOf x := by
  obtain ⟨d, m, t, ns, ks⟩ := x
  simp only [kidT, Option.bind_eq_some_iff] at h
  obtain ⟨j, _, hj⟩ := h
  exact List.mem_of_getElem? hj
theorem isT_kid {n : Nat} {x k : Tr} (h : IsT (n + 1) x) (hk : k ∈ kidsOf x) : IsT n k := by
  obtain ⟨d, m, t, ns, ks⟩ := x
  obtain ⟨rd, es, u, w, h1, h2, h3, h4, A, cap, _, _, h5⟩ := h
  obtain ⟨j, hj⟩ := List.getElem?_of_mem hk
  obtain ⟨a, es', _, _, _, h6⟩ := h5 j k hj
  exact ⟨rd, es', h6⟩
theorem at_all {P : Tr → Prop} : ∀ (ps : List ByteArray) {n : Nat} {x y : Tr}, IsT n x → AllT P n x → atT x ps = some y → IsT n y ∧ AllT P n y
  | [], n, x, y, h, ha, he => by cases he; exact ⟨h, ha⟩
  | p :: r, 0, x, y, ⟨_, _, h⟩, ha, he => h.elim
  | p :: r, n + 1, x, y, h, ha, he => by
    simp only [atT, Option.bind_eq_some_iff] at he
    obtain ⟨k, hk, he⟩ := he
    have hm := kid_mem hk
    obtain ⟨⟨rd, es, h1⟩, h2⟩ := at_all r (isT_kid h hm) (ha.2 k hm) he
    exact ⟨⟨rd, es, RT_up _ _ _ _ h1⟩, all_up h1 h2⟩
theorem all_imp {P Q : Tr → Prop} (hPQ : ∀ x, P x → Q x) : ∀ {n : Nat} {x : Tr}, AllT P n x → AllT Q n x
  | 0, _, _ => trivial
  | n + 1, x, h => ⟨hPQ _ h.1, fun k hk => all_imp hPQ (h.2 k hk)⟩
theorem fit_all : ∀ {n : Nat} {x : Tr}, fitT n x → AllT (fun x => (namesOf x).length ≤ 1000000000000 ∧ (kidsOf x).length ≤ 1000000000000) n x
  | 0, _, _ => trivial
  | n + 1, .mk d m t ns ks, h => ⟨⟨h.1, h.2.1⟩, fun k hk => fit_all (h.2.2 k hk)⟩

noncomputable def readT (n : Nat) (x : Tr) (ps : List ByteArray) (a c : Int) : ByteArray × Int :=
  if treeOk n x = true then
    if a < 0 ∨ c < 0 then (⟨#[]⟩, 2)
    else match atT x ps with
      | none => (⟨#[]⟩, 3)
      | some y => if isDir y = true then (⟨#[]⟩, 4) else ((dataOf y).extract (min a (dataOf y).size).toNat (min (a + c) (dataOf y).size).toNat, 0)
  else (⟨#[]⟩, 1)
noncomputable def listT (n : Nat) (x : Tr) (ps : List ByteArray) : List ByteArray × Int :=
  if treeOk n x = true then match atT x ps with
    | none => ([], 3)
    | some y => if isDir y = true then (namesOf y, 0) else ([], 4)
  else ([], 1)

theorem extract_none {t : ByteArray} {i j : Nat} (h : min j t.size ≤ i) : t.extract i j = ⟨#[]⟩ := by
  have := (ByteArray.extract_eq_empty_iff (b := t) (i := i) (j := j)).2 h
  exact this

section
variable {w0 : World} {σ : Vw}

theorem RT.cells {n : Nat} {rd : Addr → Option Value} {es : List Value} {x : Tr} (h : RT n rd es x) : ∃ u w, es = [.bool (isDir x), .int .i64 (modeOf x), .string (dataOf x), u, w] ∧ (-9223372036854775808 ≤ modeOf x ∧ modeOf x ≤ 9223372036854775807) ∧ (dataOf x).size ≤ 9223372036854775807 ∧ RSl 1 RS rd u (namesOf x) ∧ RSl 5 (RT n) rd w (kidsOf x) ∧ ∀ A : Prop, pVal true 5 (.agg ⟨es⟩) A ↔ A := by
  obtain _ | n := n
  · exact h.elim
  · obtain ⟨d, m, t, ns, ks⟩ := x
    obtain ⟨u, w, rfl, h2, h3, h4, h5⟩ := h
    exact ⟨u, w, rfl, h2, h3, h4, h5.imp fun es x h => RT_up n rd es x h, fun A => pVal_5 rfl rfl rfl h4.one h5.one⟩

theorem spec_TreeRead {n : Nat} {es : List Value} {v : Value} {x : Tr} {ps : List ByteArray} {a c : Int} (h : RT n (Av.get w0 σ) es x) (hp : RSl 1 RS (Av.get w0 σ) v ps) (hb : cntT n x ≤ 1000000000000) (ha : -9223372036854775808 ≤ a ∧ a ≤ 9223372036854775807) (hc : -9223372036854775808 ≤ c ∧ c ≤ 9223372036854775807) {R : Value → Vw → Prop}
    (hR : R (.tuple ⟨[.string (readT n x ps a c).1, .int .i64 (readT n x ps a c).2]⟩) σ) : AC Try.prog w0 n_spec_TreeRead [.agg ⟨es⟩, v, .int .i64 a, .int .i64 c] σ R := by
  have h0 := h
  obtain ⟨_, _, _, _, _, rfl, _, hpv⟩ := RT.five h
  refine ac_spec_TreeRead ?_
  unfold vc_spec_TreeRead
  rw [hpv]
  simp only [cellOf_agg, List.getD_cons_zero, List.getD_cons_succ]
  refine spec_TreeOk h0 hb ?_
  rw [pUn_not, pIf_b]
  refine ⟨fun hn => by simp at hn; simpa [readT, hn] using hR, fun hn => ?_⟩
  have hok : treeOk n x = true := by simpa using hn
  have hwf : wfT n x := by simp only [treeOk, Bool.and_eq_true] at hok; exact sound_wf n x 0 hok.2.1
  simp only [readT, hok, if_true] at hR
  refine spec_At ps h0 hwf hp fun es' he' => ?_
  rw [pExtract_s rfl, pExtract_s rfl]
  obtain ⟨u, w, rfl, _, hs, _, _, hpv'⟩ := RT.cells he'
  rw [hpv', pBin_lt, pIf_d]
  refine ⟨fun h1 => by rw [if_pos (.inl h1)] at hR; exact hR, fun h1 => ?_⟩
  rw [pBin_lt, pIf_d]
  refine ⟨fun h2 => by rw [if_pos (.inr h2)] at hR; exact hR, fun h2 => ?_⟩
  rw [if_neg (by omega)] at hR
  rw [pUn_not, pIf_b]
  cases hat : atT x ps with
  | none =>
    rw [hat] at hR
    exact ⟨fun _ => hR, fun h => by simp at h⟩
  | some y =>
    rw [hat] at hR hs
    refine ⟨fun h => by simp at h, fun _ => ?_⟩
    simp only [cellOf_agg, List.getD_cons_zero, List.getD_cons_succ, Option.getD_some] at hs hR ⊢
    rw [pIf_b]
    refine ⟨fun hd => by rw [if_pos hd] at hR; exact hR, fun hd => ?_⟩
    rw [if_neg (by rw [hd]; simp)] at hR
    rw [pLenS_s, pBin_ge, pIf_d]
    refine ⟨fun hge => ?_, fun hlt => ?_⟩
    · rw [extract_none (by omega)] at hR; exact hR
    · rw [pLenS_s, pBin_sub (by omega), pBin_gt, pIf_d]
      refine ⟨fun hgt => ?_, fun hle => ?_⟩
      · refine pSliceStr_s (l := a) (h := (dataOf y).size) rfl rfl (by omega) ?_
        rw [show (min a ((dataOf y).size : Int)) = a by omega, show (min (a + c) ((dataOf y).size : Int)) = (dataOf y).size by omega] at hR
        exact hR
      · rw [pBin_add (by omega)]
        refine pSliceStr_s (l := a) (h := a + c) rfl rfl (by omega) ?_
        rw [show (min a ((dataOf y).size : Int)) = a by omega, show (min (a + c) ((dataOf y).size : Int)) = a + c by omega] at hR
        exact hR

/-- A tree that is put into a row of our own. -/
theorem PT.new {n b : Nat} {es : List Value} {x : Tr} (h : RT n (Av.get w0 σ) es x) (hb : w0.heap.size ≤ b) (hn : σ b = none) {ety c : Nat} : PT n (Av.get w0 (σ.put b ⟨ety, es, c, (0, 0)⟩)) (.pointer (some ⟨b, 0, none⟩)) x := by
  have hl : es.length = 5 := by obtain ⟨_, _, _, _, _, rfl, _⟩ := RT.five h; rfl
  refine ⟨_, es, rfl, hl, fun i hi => ?_, mono_rt n _ _ _ _ (Keeps.put hn).le h⟩
  rw [addr_add, get_row hb put_at, Nat.zero_add]
theorem PT.load {n : Nat} {p : Value} {x : Tr} (h : PT n (Av.get w0 σ) p x) {K : (Nat → Value) → Prop} (hK : ∀ g : Nat → Value, RT n (Av.get w0 σ) (expl g 0 5) x → K g) : pLoad w0 5 p σ K := by
  obtain ⟨a, es, rfl, h5, h6, h7⟩ := h
  refine ⟨a, fun i => es.getD i undef, rfl, fun i hi => ?_, hK _ ?_⟩
  · rw [h6 i hi, List.getElem?_eq_getElem (by omega)]
    simp only [List.getD_eq_getElem?_getD, List.getElem?_eq_getElem (show i < es.length by omega), Option.getD_some]
  · have : expl (fun i => es.getD i undef) 0 5 = es := by
      match es, h5 with
      | [a, b, c, d, e], _ => rfl
    rw [this]; exact h7

theorem impl_TreeRead {n : Nat} {es : List Value} {v : Value} {x : Tr} {ps : List ByteArray} {a c : Int} (h : RT n (Av.get w0 σ) es x) (hp : RSl 1 RS (Av.get w0 σ) v ps) (hb : cntT n x ≤ 1000000000000) (ha : -9223372036854775808 ≤ a ∧ a ≤ 9223372036854775807) (hc : -9223372036854775808 ≤ c ∧ c ≤ 9223372036854775807) {R : Value → Vw → Prop}
    (hR : ∀ σ', Keeps σ σ' → R (.tuple ⟨[.string (readT n x ps a c).1, .int .i64 (readT n x ps a c).2]⟩) σ') : AC Try.prog w0 n_impl_TreeRead [.agg ⟨es⟩, v, .int .i64 a, .int .i64 c] σ R := by
  have h0 := h
  obtain ⟨e0, e1, e2, e3, e4, rfl, _, hpv⟩ := RT.five h
  refine ac_impl_TreeRead ?_
  unfold vc_impl_TreeRead
  rw [hpv]
  simp only [cellOf_agg, List.getD_cons_zero, List.getD_cons_succ]
  intro b h1 h2
  have k1 : Keeps σ (σ.put b ⟨t_impl_Tree, [e0, e1, e2, e3, e4], 5, (0, 0)⟩) := Keeps.put h2
  have hq := PT.new (ety := t_impl_Tree) (c := 5) h0 h1 h2
  refine PT.load hq fun g hg => ?_
  refine impl_TreeOk hg hb ?_
  rw [pUn_not, pIf_b]
  refine ⟨fun hn => ?_, fun hn => ?_⟩
  · simp at hn
    have := hR _ k1
    simpa [readT, hn] using this
  have hok : treeOk n x = true := by simpa using hn
  have hwf : wfT n x := by simp only [treeOk, Bool.and_eq_true] at hok; exact sound_wf n x 0 hok.2.1
  have hR1 := hR _ k1
  simp only [readT, hok, if_true] at hR1
  rw [pBin_lt, pIf_d]
  refine ⟨fun h1 => by rw [if_pos (.inl h1)] at hR1; exact hR1, fun h1 => ?_⟩
  rw [pBin_lt, pIf_d]
  refine ⟨fun h2 => by rw [if_pos (.inr h2)] at hR1; exact hR1, fun h2 => ?_⟩
  rw [if_neg (by omega)] at hR1
  obtain _ | n := n
  · exact h0.elim
  refine impl_at hq hwf (hp.mono k1.le fun _ _ h => h) fun q hq' => ?_
  cases hat : atT x ps with
  | none =>
    rw [hat] at hR1 hq'
    obtain rfl : q = .pointer none := hq'
    rw [pBin_nil ptr_tree, pIf_b]
    exact ⟨fun _ => hR1, fun h => by simp at h⟩
  | some y =>
    rw [hat] at hR1 hq'
    have hq2 : PT (n + 1) _ q y := hq'
    obtain ⟨aq, esq, rfl, _⟩ := id hq2
    rw [pBin_nil ptr_tree, pIf_b]
    refine ⟨fun h => by simp at h, fun _ => ?_⟩
    refine hq2.ld 0 (by omega) fun es g he hg => ?_
    obtain ⟨u, w, rfl, _, hs, _, _, _⟩ := RT.cells he
    simp only [List.getElem?_cons_zero, List.getElem?_cons_succ, Option.some.injEq] at hg
    rw [← hg, pIf_b]
    simp only at hR1
    refine ⟨fun hd => by rw [if_pos hd] at hR1; exact hR1, fun hd => ?_⟩
    rw [if_neg (by rw [hd]; simp)] at hR1
    refine hq2.ld 2 (by omega) fun es g2 he hg2 => ?_
    obtain ⟨u, w, rfl, _, _, _, _, _⟩ := RT.cells he
    simp only [List.getElem?_cons_zero, List.getElem?_cons_succ, Option.some.injEq] at hg2
    refine hq2.ld 2 (by omega) fun es g3 he hg3 => ?_
    obtain ⟨u, w, rfl, _, _, _, _, _⟩ := RT.cells he
    simp only [List.getElem?_cons_zero, List.getElem?_cons_succ, Option.some.injEq] at hg3
    rw [← hg2, ← hg3, pLenS_s, pMin_s]
    refine pSliceStr_s (l := min a (dataOf y).size) (h := (dataOf y).size) rfl rfl (by omega) ?_
    rw [pLenS_s, pMin_s]
    have hsz : ((dataOf y).extract (min a ((dataOf y).size : Int)).toNat ((dataOf y).size : Int).toNat).size = (dataOf y).size - (min a ((dataOf y).size : Int)).toNat := by rw [ByteArray.size_extract]; omega
    refine pSliceStr_s (l := 0) (h := min c _) rfl rfl (by omega) ?_
    rw [ByteArray.extract_extract, hsz]
    rw [show (min a ((dataOf y).size : Int)).toNat + (0 : Int).toNat = (min a ((dataOf y).size : Int)).toNat by omega,
      show min ((min a ((dataOf y).size : Int)).toNat + (min c (((dataOf y).size - (min a ((dataOf y).size : Int)).toNat : Nat) : Int)).toNat) ((dataOf y).size : Int).toNat = (min (a + c) ((dataOf y).size : Int)).toNat by omega]
    exact hR1
end
end Go.Proofs.Ytpplljcblgnnhaa
