/- The law 'DiskWrite'; how disks and writes are opened. -/
import Derived.Test.YtpplljcblgnnhaaE4
set_option linter.unusedVariables false
set_option linter.unusedSimpArgs false
namespace Go.Proofs.Ytpplljcblgnnhaa
open Go Go.Av Go.RowKit

def RDisk (rd : Addr → Option Value) (es : List Value) (xs : List ByteArray) : Prop := ∃ v, es = [v] ∧ RSl 1 RS rd v xs

theorem cut1 {es : List Value} {a : Value} (hl : es.length = 1) (h0 : (es.drop 0).take 1 = [a]) : es = [a] := by
  match es, hl with
  | [p], _ => simp at h0; subst h0; rfl
theorem cut2 {es : List Value} {a b : Value} (hl : es.length = 2) (h0 : (es.drop 0).take 1 = [a]) (h1 : (es.drop 1).take 1 = [b]) : es = [a, b] := by
  match es, hl with
  | [p, q], _ => simp at h0 h1; subst h0 h1; rfl

theorem open_disk {H : Type} {enc : TypeId × Value → H} {W : World} {spare : Nat → Bool} (fuel : Nat) (es : List Value) (y : DataW H × List MemPlace) (h : DataW.trod enc Try.prog W 0 spare true fuel t_laws_Disk es = some y) (hl : es.length = 1) : ∃ x, RDisk (Av.get W σ0) es x := by
  have hT : Try.prog.underlying t_laws_Disk = some (.struct (fsOf Try.prog t_laws_Disk)) := by kernel_rfl
  obtain ⟨f0, y0, l0, h0⟩ := open_field' hT 0 t_s_string 0 1 (by kernel_rfl) (by kernel_rfl) h
  obtain ⟨u, ns, hu, hus⟩ := open_rsl (t := t_s_string) (e := t_string) (by kernel_rfl) (by kernel_rfl) (open_rs (by kernel_rfl)) h0
  exact ⟨ns, u, cut1 hl hu, hus⟩
theorem open_raw {H : Type} {enc : TypeId × Value → H} {W : World} {spare : Nat → Bool} (fuel : Nat) (es : List Value) (y : DataW H × List MemPlace) (h : DataW.trod enc Try.prog W 0 spare true fuel t_laws_Raw es = some y) (hl : es.length = 2) : ∃ x, RRaw (Av.get W σ0) es x := by
  have hT : Try.prog.underlying t_laws_Raw = some (.struct (fsOf Try.prog t_laws_Raw)) := by kernel_rfl
  obtain ⟨f0, y0, l0, h0⟩ := open_field' hT 0 t_int 0 1 (by kernel_rfl) (by kernel_rfl) h
  obtain ⟨f1, y1, l1, h1⟩ := open_field' hT 1 t_string 1 1 (by kernel_rfl) (by kernel_rfl) h
  obtain ⟨m, hm, hm2⟩ := open_int (by kernel_rfl) h0
  obtain ⟨t, ht, ht2⟩ := open_str (by kernel_rfl) h1
  exact ⟨(m, t), cut2 hl hm ht, hm2, ht2⟩

section
variable {w0 : World} {σ : Vw}

theorem toDisk' {v : Value} {xs : List ByteArray} (h : RSl 1 RS (Av.get w0 σ) v xs) (hb : xs.length ≤ 1000000000000) {R : Value → Vw → Prop}
    (hR : ∀ v' F σ', Keeps σ σ' → OStrs w0 σ' F v' xs → (∀ b, b ∈ F → σ b = none) → R (.agg ⟨[v']⟩) σ') : AC Try.prog w0 n_laws_toDisk [.agg ⟨[v]⟩] σ R :=
  toDisk h hb fun b ety h1 h2 => hR _ [b] _ (Keeps.put h2) (own_strs h1 put_at rfl ⟨Nat.le_refl _, h.le⟩ (strs_le h)) fun i hi => by rw [List.mem_singleton.1 hi]; exact h2

theorem writeD_len {bs : List ByteArray} {xs : List Rw} {cut : Int} : (writeD bs xs cut).length ≤ bs.length := by
  unfold writeD; split
  · rw [runD_len]; omega
  · simp

theorem sum_const {α : Type} (c : Nat) (xs : List α) : sumBy (fun _ => c) xs = c * xs.length := by
  induction xs with
  | nil => rfl
  | cons a r ih => simp only [sumBy, ih, List.length_cons, Nat.mul_add, Nat.mul_one]; omega
/-- Lists that lie apart. -/
theorem apart_new {F G : List Nat} {σ : Vw} (hF : ∀ b, b ∈ F → σ b ≠ none) (hG : ∀ b, b ∈ G → σ b = none) : (∀ b, b ∈ F → b ∉ G) ∧ (∀ b, b ∈ G → b ∉ F) :=
  ⟨fun b h h' => hF b h (hG b h'), fun b h h' => hF b h' (hG b h)⟩

theorem law_DiskWrite {es : List Value} {u : Value} {bs : List ByteArray} {xs : List Rw} {cut : Int} (hd : RDisk (Av.get w0 σ) es bs) (hu : RSl 2 RRaw (Av.get w0 σ) u xs) (hc : -9223372036854775808 ≤ cut ∧ cut ≤ 9223372036854775807) {R : Value → Vw → Prop} (hR : ∀ σ', R (.bool true) σ') :
    AC Try.prog w0 n_laws_FnExactDiskWrite [.agg ⟨es⟩, u, .int .i64 cut] σ R := by
  obtain ⟨v, rfl, h⟩ := hd
  refine ac_laws_FnExactDiskWrite ?_
  unfold vc_laws_FnExactDiskWrite
  rw [pVal_1 h.one]
  simp only [cellOf_agg, List.getD_cons_zero]
  refine szDisk h (by omega) ?_
  rw [pBin_lt, pIf_d]
  refine ⟨fun _ => hR _, fun hb => ?_⟩
  rw [left_neg] at hb
  have hlb : bs.length ≤ 1048576 := by omega
  rw [show left (1048576 : Int) (bs.length + sumS bs) = 1048576 - ((bs.length + sumS bs : Nat) : Int) by unfold left; rw [if_neg (by omega)]]
  refine szRawS hu (by omega) ?_
  rw [pBin_lt, pIf_d]
  refine ⟨fun _ => hR _, fun hb2 => ?_⟩
  rw [Av.left_neg] at hb2
  have hlx : xs.length ≤ 1048576 := by omega
  refine toDisk' h (by omega) fun v1 F1 s1 k1 o1 f1 => ?_
  refine toRawS (hu.mono k1.le fun _ _ h => h) (by omega) fun u1 G1 s2 k2 p1 g1 => ?_
  have o1' := o1.frame (ok_str w0) (k2.but_at fun b hb => (o1.dom (ok_str w0) b hb).2)
  refine spec_DiskWrite (o1'.rel (ok_str w0)) (p1.rel (ok_raw w0)) fun wv Fw s3 k3 ow fw => ?_
  have hw := ow.rel (ok_str w0)
  rw [pVal_1 (OSl.one' ow)]
  have K3 := (k1.trans k2).trans k3
  refine toDisk' (h.mono K3.le fun _ _ h => h) (by omega) fun v2 F2 s4 k4 o2 f2 => ?_
  rw [pVal_1 (OSl.one' o2)]
  refine toRawS (hu.mono (K3.trans k4).le fun _ _ h => h) (by omega) fun u2 G2 s5 k5 p2 g2 => ?_
  have o2' := o2.frame (ok_str w0) (k5.but_at fun b hb => (o2.dom (ok_str w0) b hb).2)
  refine impl_DiskWrite (o2'.rel (ok_str w0)) (p2.rel (ok_raw w0)) fun gv Fg s6 k6 og fg => ?_
  rw [pVal_1 (OSl.one' og)]
  have w6 : RSl 1 RS (Av.get w0 s6) wv (writeD bs xs cut) := hw.mono ((k4.trans k5).trans k6).le fun _ _ h => h
  refine eqDisk (og.rel (ok_str w0)) w6 ?_
  rw [pUn_not, pIf_b]
  refine ⟨fun h => by simp at h, fun _ => ?_⟩
  have K6 := ((K3.trans k4).trans k5).trans k6
  refine toDisk' (h.mono K6.le fun _ _ h => h) (by omega) fun v3 F3 s7 k7 o3 f3 => ?_
  refine ⟨k7.ext, ?_⟩
  have o2'' := o2'.frame (ok_str w0) ((k6.trans k7).but_at fun b hb => (o2'.dom (ok_str w0) b hb).2)
  refine eqDisk (o2''.rel (ok_str w0)) (o3.rel (ok_str w0)) ?_
  rw [pUn_not, pIf_b]
  refine ⟨fun h => by simp at h, fun _ => ?_⟩
  refine toRawS (hu.mono (K6.trans k7).le fun _ _ h => h) (by omega) fun u3 G3 s8 k8 p3 g3 => ?_
  have p2' := p2.frame (ok_raw w0) (((k6.trans k7).trans k8).but_at fun b hb => (p2.dom (ok_raw w0) b hb).2)
  refine eqRawS (p2'.rel (ok_raw w0)) (p3.rel (ok_raw w0)) ?_
  rw [pUn_not, pIf_b]
  refine ⟨fun h => by simp at h, fun _ => ?_⟩
  -- the marks of the arguments
  have k38 := ((((k4.trans k5).trans k6).trans k7).trans k8)
  have a2 := o2''.frame (ok_str w0) (k8.but_at fun b hb => (o2''.dom (ok_str w0) b hb).2)
  refine markDisk (k := 1) a2 (by omega) fun s9 k9 _ => ?_
  have hF2 : ∀ b, b ∈ F2 → s3 b = none := f2
  have hG2 : ∀ b, b ∈ G2 → s4 b = none := g2
  have p2'' := p2'.frame (ok_raw w0) (k9.at (fun b hb => (p2'.dom (ok_raw w0) b hb).2) fun b hb hb' => (o2.dom (ok_str w0) b hb').2 (hG2 b hb))
  have hsum := sum_const (α := Rw) 2 xs
  refine markRawS (k := 1 + bs.length) p2'' (by rw [hsum]; omega) fun s10 k10 _ => ?_
  rw [pBin_lt, pIf_d]
  refine ⟨fun h => by omega, fun _ => ?_⟩
  have kw10 : Keeps s3 s10 := k10.old (k9.old k38 hF2) fun b hb => by
    cases hs : s3 b with
    | none => rfl
    | some r => have := hG2 b hb; rw [k4 b r hs] at this; cases this
  have w10 : RSl 1 RS (Av.get w0 s10) wv (writeD bs xs cut) := hw.mono kw10.le fun _ _ h => h
  have hFg : ∀ b, b ∈ Fg → s5 b = none := fg
  have g8 := og.frame (ok_str w0) ((k7.trans k8).but_at fun b hb => (og.dom (ok_str w0) b hb).2)
  have g9 := g8.frame (ok_str w0) (k9.at (fun b hb => (g8.dom (ok_str w0) b hb).2) fun b hb hb' => (o2'.dom (ok_str w0) b hb').2 (hFg b hb))
  have g10 := g9.frame (ok_str w0) (k10.at (fun b hb => (g9.dom (ok_str w0) b hb).2) fun b hb hb' => (p2.dom (ok_raw w0) b hb').2 (hFg b hb))
  refine eqDisk (g10.rel (ok_str w0)) w10 ?_
  rw [pUn_not, pIf_b]
  refine ⟨fun h => by simp at h, fun _ => ?_⟩
  have hwl := writeD_len (bs := bs) (xs := xs) (cut := cut)
  refine markDisk (k := 1) g10 (by omega) fun s11 k11 g11 => ?_
  refine heldDisk (k := 1) (g11.rel (ok_str w0)) (by omega) fun s12 k12 => ?_
  rw [pBin_lt, pIf_d]
  refine ⟨fun h => by omega, fun _ => ?_⟩
  rw [pBin_ne, pIf_d]
  refine ⟨fun h => absurd rfl h, fun _ => ?_⟩
  have g12 := g11.frame (ok_str w0) (k12.but_at fun b hb => (g11.dom (ok_str w0) b hb).2)
  have kw12 : Keeps s3 s12 := (k11.old kw10 (fun b hb => by
    cases hs : s3 b with
    | none => rfl
    | some r => have := hFg b hb; rw [(k4.trans k5) b r hs] at this; cases this)).trans k12
  have K12 : Keeps σ s12 := K3.trans kw12
  refine toDisk' (h.mono K12.le fun _ _ h => h) (by omega) fun v4 F4 s13 k13 o4 f4 => ?_
  refine toRawS (hu.mono (K12.trans k13).le fun _ _ h => h) (by omega) fun u4 G4 s14 k14 p4 g4 => ?_
  have o4' := o4.frame (ok_str w0) (k14.but_at fun b hb => (o4.dom (ok_str w0) b hb).2)
  refine impl_DiskWrite (o4'.rel (ok_str w0)) (p4.rel (ok_raw w0)) fun hv Fh s15 k15 oh fh => ?_
  rw [pVal_1 (OSl.one' oh)]
  have k1215 := (k13.trans k14).trans k15
  refine eqDisk (oh.rel (ok_str w0)) (hw.mono (kw12.trans k1215).le fun _ _ h => h) ?_
  rw [pUn_not, pIf_b]
  refine ⟨fun h => by simp at h, fun _ => ?_⟩
  have g15 := g12.frame (ok_str w0) (k1215.but_at fun b hb => (g12.dom (ok_str w0) b hb).2)
  refine heldDisk (k := 1) (g15.rel (ok_str w0)) (by omega) fun s16 k16 => ?_
  rw [pBin_lt, pIf_d]
  refine ⟨fun h => by omega, fun _ => ?_⟩
  rw [pBin_ne, pIf_d]
  exact ⟨fun h => absurd rfl h, fun _ => hR _⟩
end
end Go.Proofs.Ytpplljcblgnnhaa
