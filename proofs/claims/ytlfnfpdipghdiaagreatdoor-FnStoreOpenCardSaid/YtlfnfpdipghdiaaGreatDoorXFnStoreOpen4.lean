/- The law FnStoreOpen holds: it returns true, and the input reads as it did. No condition. This is part 4 of 4 of its proof. -/
import Derived.Test.YtlfnfpdipghdiaaGreatDoorXFnStoreOpen3
import Derived.Test.YtlfnfpdipghdiaaGreatDoorRows
import Derived.WalkKit
import Derived.ProofKit
import Derived.OpenShut
import Derived.ShutString
import Derived.ChangeOld
import Derived.Below
import Derived.Carry
import Derived.SizedLaws
import Derived.LaidMore
import Derived.Lay
import Derived.MakeChecks
import Derived.Stop.Joined
import Derived.HandedShaped
import Derived.Shelf.Vars
import Derived.SevenTiedAt
import Derived.Stop.LaidErr
import Derived.LaidLaws
import Derived.Lib.LaidTab
import Derived.WalkSmall
import Derived.Test.YtlfnfpdipghdiaaGreatDoorCards
import Derived.Test.YtlfnfpdipghdiaaGreatDoorTie

/- How a disk is opened and a store is played, by the program's hand. -/
set_option linter.unusedVariables false
set_option linter.unusedSimpArgs false
set_option maxRecDepth 20000
namespace Go.Proofs.YtlfnfpdipghdiaaGreatDoor
open Go Go.Av Go.RowKit

section
variable {w0 : World} {σ : Vw}

set_option maxHeartbeats 2000000 in
theorem impl_StoreOpen (tab : Tab w0) (mx : MaxL w0) (er : ErrL w0) {v : Value} {B : List ByteArray} (h : RSl 1 RS (Av.get w0 σ) v B) {R : Value → Vw → Prop} (hR : OutO w0 σ B R) : AC Tryz.prog w0 n_impl_StoreOpen [.agg ⟨[v]⟩] σ R := by
  refine ac_impl_StoreOpen ?_
  unfold vc_impl_StoreOpen cs_impl_StoreOpen_1 cs_impl_StoreOpen_3 cs_impl_StoreOpen_2
  rw [pVal_1 h.one]
  simp only [cellOf_agg, List.getD_cons_zero]
  have fail : ∀ s, Keeps σ s → openP B = none → R (.tuple ⟨[.agg ⟨[.int .i64 0, .string ⟨#[]⟩, .slice none 0 0, .int .i64 0]⟩, .bool false]⟩) s := fun s k e => by
    have := hR [.int .i64 0, .string ⟨#[]⟩, .slice none 0 0, .int .i64 0] [] s k (by rw [openR_none e]; exact ASto.zero) (fun i hi => by cases hi)
    rw [openR_none e] at this; exact this
  refine impl_DiskOk h ?_
  rw [pUn_not, pIf_b]
  refine ⟨fun hd => ?_, fun hd => ?_⟩
  · rw [pVal_4 rfl rfl rfl rfl]
    exact fail σ (Keeps.refl _) (open_none0 fun h => by rw [h.1] at hd; cases hd)
  have hB : diskOk B = true := by simpa using hd
  obtain ⟨hsz, hlen⟩ := diskOk_iff.1 hB
  refine impl_head tab mx er (slot := 0) h hB (by omega) fun s1 k1 => ?_
  rw [pExtract_s rfl, pExtract_s rfl]
  refine impl_head tab mx er (slot := 1) (h.mono k1.le fun _ _ h => h) hB (by omega) fun s2 k2 => ?_
  rw [pExtract_s rfl, pExtract_s rfl]
  have K2 := k1.trans k2
  -- behind the groups
  have last : ∀ (gen : Int) (t gv : Value) (tt : ByteArray) (gs : List ByteArray) (F : List Nat) (nx : Nat) (s : Vw), t = .string tt → (1 ≤ gen ∧ gen ≤ 99999) → nx ≤ 12 → Keeps σ s → OAcc w0 t_string 1 OStr s F gv gs → (CleanP B gen nx → ∀ s', Keeps s s' → R (.tuple ⟨[.agg ⟨[.int .i64 gen, .string tt, gv, .int .i64 (nx : Nat)]⟩, .bool true]⟩) s') → (¬ CleanP B gen nx → openP B = none) →
      pLoop (fun l53 K54 s55 => pBin Tryz.prog 3 .lss (vget l53 2) (.int .i64 12) (fun v56 => pIf v56 (pBin Tryz.prog 3 .add (.int .i64 2) (vget l53 2) (fun v57 => pIndexAddr 1 (vget l53 3) v57 (fun v58 => pLoad w0 1 v58 s55 (fun g59 => AC Tryz.prog w0 n_impl_headLike [g59 0, vget l53 1] s55 (fun v60 s61 => pIf v60 (pVal true 4 (.agg (⟨[.int .i64 0, .string ({ data := #[] }), .slice none 0 0, .int .i64 0]⟩)) (K54 AX.ret ([.bool false, vget l53 1, vget l53 2, vget l53 3, .int .i64 0, .string ({ data := #[] }), .slice none 0 0, .int .i64 0, vget l53 8, vget l53 9, vget l53 10, vget l53 11]) s61)) (pBin Tryz.prog 3 .add (vget l53 2) (.int .i64 1) (fun v62 => K54 AX.normal [vget l53 0, vget l53 1, v62, vget l53 3, vget l53 4, vget l53 5, vget l53 6, vget l53 7, vget l53 8, vget l53 9, vget l53 10, vget l53 11] s61))))))) (K54 (AX.exit 2) [vget l53 0, vget l53 1, vget l53 2, vget l53 3, vget l53 4, vget l53 5, vget l53 6, vget l53 7, vget l53 8, vget l53 9, vget l53 10, vget l53 11] s55))) [.bool false, .int .i64 gen, .int .i64 (nx : Nat), v, .int .i64 0, .string ⟨#[]⟩, .slice none 0 0, .int .i64 0, .int .i64 gen, t, gv, .int .i64 (nx : Nat)] s (fun x63 l64 s65 => match x63 with | .normal => pVal true 4 (.agg (⟨[vget l64 8, vget l64 9, vget l64 10, vget l64 11]⟩)) (R (.tuple (⟨[.agg (⟨[vget l64 8, vget l64 9, vget l64 10, vget l64 11]⟩), .bool true]⟩)) s65) | .ret => R (.tuple (⟨[.agg (⟨[vget l64 4, vget l64 5, vget l64 6, vget l64 7]⟩), vget l64 0]⟩)) s65 | .exit i66 => (match Nat.beq i66 2 with | true => pVal true 4 (.agg (⟨[vget l64 8, vget l64 9, vget l64 10, vget l64 11]⟩)) (R (.tuple (⟨[.agg (⟨[vget l64 8, vget l64 9, vget l64 10, vget l64 11]⟩), .bool true]⟩)) s65) | false => False)) := by
    rintro gen t gv tt gs F nx s0 rfl hgen hnx ks0 ho hyes hno
    refine loop_rule (m := 12 - nx) (fun m l s => ∃ i : Nat, m + i = 12 ∧ nx ≤ i ∧ Keeps s0 s ∧ (∀ j, nx ≤ j → j < i → likeP (at0 B (2 + j)) gen = false) ∧ l = [.bool false, .int .i64 gen, .int .i64 (i : Nat), v, .int .i64 0, .string ⟨#[]⟩, .slice none 0 0, .int .i64 0, .int .i64 gen, .string tt, gv, .int .i64 (nx : Nat)]) ?_
      ⟨nx, by omega, Nat.le_refl _, Keeps.refl _, fun j h1 h2 => by omega, rfl⟩
    rintro m l s L ⟨i, hm, hni, ks, hj, rfl⟩ hL
    simp only [vget, List.getD_cons_zero, List.getD_cons_succ]
    rw [pBin_lt, pIf_d]
    refine ⟨fun hlt => ?_, fun hge => ?_⟩
    · have hi : i < 12 := by omega
      have e1 : (2 : Int) + ((i : Nat) : Int) = ((2 + i : Nat) : Int) := by omega
      rw [pBin_add (by omega), e1]
      refine RSl.at1 (h.mono (ks0.trans ks).le fun _ _ h => h) (at0_some (show 2 + i < B.length by omega)) fun g hg' _ => ?_
      rw [hg']
      refine impl_headLike tab mx er (hsz (2 + i)) fun s' k' => ?_
      rw [like_eq _ hgen.1, pIf_b]
      refine ⟨fun hl => ?_, fun hl => ?_⟩
      · rw [pVal_4 rfl rfl rfl rfl]
        refine fail s' ((ks0.trans ks).trans k') (hno fun hc => ?_)
        have := hc i hni hi
        rw [hl] at this; cases this
      · rw [pBin_add (by omega)]
        refine hL _ _ (m - 1) (by omega) ⟨i + 1, by omega, by omega, ks.trans k', fun j h1 h2 => ?_, rfl⟩
        by_cases e : j = i
        · subst e; exact hl
        · exact hj j h1 (by omega)
    · have ho' := ho.frame (σ' := s) (ok_str w0) (ks.but_at fun b hb => (ho.dom (ok_str w0) b hb).2)
      show pVal true 4 (.agg ⟨[.int .i64 gen, .string tt, gv, .int .i64 (nx : Nat)]⟩) (R (.tuple ⟨[.agg ⟨[.int .i64 gen, .string tt, gv, .int .i64 (nx : Nat)]⟩, .bool true]⟩) s)
      rw [pVal_4 rfl rfl (OSl.one' ho'.osl) rfl]
      exact hyes (fun j h1 h2 => hj j h1 (by omega)) s ks
  -- behind the heads
  have rest : ∀ (gen n : Int), genP B = (gen, n) → pBin Tryz.prog 3 .eql (.int .i64 gen) (.int .i64 0) (fun v67 => pIf v67 (pVal true 4 (.agg (⟨[.int .i64 0, .string ({ data := #[] }), .slice none 0 0, .int .i64 0]⟩)) (R (.tuple (⟨[.agg (⟨[.int .i64 0, .string ({ data := #[] }), .slice none 0 0, .int .i64 0]⟩), .bool false]⟩)) s2)) (AC Tryz.prog w0 n_impl_checkText ([.agg (⟨[v]⟩), .int .i64 gen, .int .i64 n]) s2 (fun v68 s69 => pExtract v68 0 (fun v70 => pExtract v68 1 (fun v71 => pUn UnOp.not v71 (fun v72 => pIf v72 (pVal true 4 (.agg (⟨[.int .i64 0, .string ({ data := #[] }), .slice none 0 0, .int .i64 0]⟩)) (R (.tuple (⟨[.agg (⟨[.int .i64 0, .string ({ data := #[] }), .slice none 0 0, .int .i64 0]⟩), .bool false]⟩)) s69)) (pNew w0 t_string [] s69 (fun n73 s74 => pVal false 1 (.int .i64 gen) (pVal false 1 v70 (pVal false 1 (.slice (some (Addr.mk n73 0 none)) 0 0) (pVal false 1 (.int .i64 0) (pVal true 4 (.agg (⟨[.int .i64 gen, v70, .slice (some (Addr.mk n73 0 none)) 0 0, .int .i64 0]⟩)) (pLoop (fun l75 K76 s77 => pLen (vget l75 9) (fun v78 => AC Tryz.prog w0 n_impl_group ([.agg (⟨[vget l75 2]⟩), vget l75 1, v78, vget l75 10]) s77 (fun v79 s80 => pExtract v79 0 (fun v81 => pExtract v79 1 (fun v82 => pUn UnOp.not v82 (fun v83 => pIf v83 (K76 (AX.exit 0) [vget l75 0, vget l75 1, vget l75 2, vget l75 3, vget l75 4, vget l75 5, vget l75 6, vget l75 7, vget l75 8, vget l75 9, vget l75 10] s80) (pVal false 1 v81 ((allOne [v81]) ∧ (pAppend w0 t_string 1 16 (vget l75 9) 1 [v81] s80 (fun v84 s85 => pVal false 1 v84 (pLenS v81 (fun v86 => AC Tryz.prog w0 n_impl_groupBlocks [v86] s85 (fun v87 s88 => pBin Tryz.prog 3 .add (vget l75 10) v87 (fun v89 => pVal false 1 v89 (K76 AX.normal [vget l75 0, vget l75 1, vget l75 2, vget l75 3, vget l75 4, vget l75 5, vget l75 6, vget l75 7, vget l75 8, v84, v89] s88))))))))))))))) ([.bool false, .int .i64 gen, v, .int .i64 0, .string ({ data := #[] }), .slice none 0 0, .int .i64 0, .int .i64 gen, v70, .slice (some (Addr.mk n73 0 none)) 0 0, .int .i64 0]) s74 (fun x90 l91 s92 => match x90 with | .normal => pLoop (fun l93 K94 s95 => pBin Tryz.prog 3 .lss (vget l93 2) (.int .i64 12) (fun v96 => pIf v96 (pBin Tryz.prog 3 .add (.int .i64 2) (vget l93 2) (fun v97 => pIndexAddr 1 (vget l93 3) v97 (fun v98 => pLoad w0 1 v98 s95 (fun g99 => AC Tryz.prog w0 n_impl_headLike [g99 0, vget l93 1] s95 (fun v100 s101 => pIf v100 (pVal true 4 (.agg (⟨[.int .i64 0, .string ({ data := #[] }), .slice none 0 0, .int .i64 0]⟩)) (K94 AX.ret ([.bool false, vget l93 1, vget l93 2, vget l93 3, .int .i64 0, .string ({ data := #[] }), .slice none 0 0, .int .i64 0, vget l93 8, vget l93 9, vget l93 10, vget l93 11]) s101)) (pBin Tryz.prog 3 .add (vget l93 2) (.int .i64 1) (fun v102 => K94 AX.normal [vget l93 0, vget l93 1, v102, vget l93 3, vget l93 4, vget l93 5, vget l93 6, vget l93 7, vget l93 8, vget l93 9, vget l93 10, vget l93 11] s101))))))) (K94 (AX.exit 2) [vget l93 0, vget l93 1, vget l93 2, vget l93 3, vget l93 4, vget l93 5, vget l93 6, vget l93 7, vget l93 8, vget l93 9, vget l93 10, vget l93 11] s95))) [vget l91 0, vget l91 1, vget l91 10, vget l91 2, vget l91 3, vget l91 4, vget l91 5, vget l91 6, vget l91 7, vget l91 8, vget l91 9, vget l91 10] s92 (fun x103 l104 s105 => match x103 with | .normal => pVal true 4 (.agg (⟨[vget l104 8, vget l104 9, vget l104 10, vget l104 11]⟩)) (R (.tuple (⟨[.agg (⟨[vget l104 8, vget l104 9, vget l104 10, vget l104 11]⟩), .bool true]⟩)) s105) | .ret => R (.tuple (⟨[.agg (⟨[vget l104 4, vget l104 5, vget l104 6, vget l104 7]⟩), vget l104 0]⟩)) s105 | .exit i106 => (match Nat.beq i106 2 with | true => pVal true 4 (.agg (⟨[vget l104 8, vget l104 9, vget l104 10, vget l104 11]⟩)) (R (.tuple (⟨[.agg (⟨[vget l104 8, vget l104 9, vget l104 10, vget l104 11]⟩), .bool true]⟩)) s105) | false => False)) | .ret => R (.tuple (⟨[.agg (⟨[vget l91 3, vget l91 4, vget l91 5, vget l91 6]⟩), vget l91 0]⟩)) s92 | .exit i107 => (match Nat.beq i107 0 with | true => pLoop (fun l108 K109 s110 => pBin Tryz.prog 3 .lss (vget l108 2) (.int .i64 12) (fun v111 => pIf v111 (pBin Tryz.prog 3 .add (.int .i64 2) (vget l108 2) (fun v112 => pIndexAddr 1 (vget l108 3) v112 (fun v113 => pLoad w0 1 v113 s110 (fun g114 => AC Tryz.prog w0 n_impl_headLike [g114 0, vget l108 1] s110 (fun v115 s116 => pIf v115 (pVal true 4 (.agg (⟨[.int .i64 0, .string ({ data := #[] }), .slice none 0 0, .int .i64 0]⟩)) (K109 AX.ret ([.bool false, vget l108 1, vget l108 2, vget l108 3, .int .i64 0, .string ({ data := #[] }), .slice none 0 0, .int .i64 0, vget l108 8, vget l108 9, vget l108 10, vget l108 11]) s116)) (pBin Tryz.prog 3 .add (vget l108 2) (.int .i64 1) (fun v117 => K109 AX.normal [vget l108 0, vget l108 1, v117, vget l108 3, vget l108 4, vget l108 5, vget l108 6, vget l108 7, vget l108 8, vget l108 9, vget l108 10, vget l108 11] s116))))))) (K109 (AX.exit 2) [vget l108 0, vget l108 1, vget l108 2, vget l108 3, vget l108 4, vget l108 5, vget l108 6, vget l108 7, vget l108 8, vget l108 9, vget l108 10, vget l108 11] s110))) [vget l91 0, vget l91 1, vget l91 10, vget l91 2, vget l91 3, vget l91 4, vget l91 5, vget l91 6, vget l91 7, vget l91 8, vget l91 9, vget l91 10] s92 (fun x118 l119 s120 => match x118 with | .normal => pVal true 4 (.agg (⟨[vget l119 8, vget l119 9, vget l119 10, vget l119 11]⟩)) (R (.tuple (⟨[.agg (⟨[vget l119 8, vget l119 9, vget l119 10, vget l119 11]⟩), .bool true]⟩)) s120) | .ret => R (.tuple (⟨[.agg (⟨[vget l119 4, vget l119 5, vget l119 6, vget l119 7]⟩), vget l119 0]⟩)) s120 | .exit i121 => (match Nat.beq i121 2 with | true => pVal true 4 (.agg (⟨[vget l119 8, vget l119 9, vget l119 10, vget l119 11]⟩)) (R (.tuple (⟨[.agg (⟨[vget l119 8, vget l119 9, vget l119 10, vget l119 11]⟩), .bool true]⟩)) s120) | false => False)) | false => False))))))))))))))) := by
    intro gen n hgp
    have hg1 : (genP B).1 = gen := by rw [hgp]
    have hg2 : (genP B).2 = n := by rw [hgp]
    have hfa := gen_facts B
    rw [hg1, hg2] at hfa
    rw [pBin_eq, pIf_d]
    refine ⟨fun h0 => ?_, fun h0 => ?_⟩
    · rw [pVal_4 rfl rfl rfl rfl]
      exact fail s2 K2 (open_none0 fun h => h.2 (by rw [hg1]; exact h0))
    obtain ⟨hgb, hnb⟩ : (1 ≤ gen ∧ gen ≤ 99999) ∧ (0 ≤ n ∧ n ≤ 5760) := by
      rcases hfa with h | h
      · exact absurd h h0
      · exact h
    have hne : (genP B).1 ≠ 0 := by rw [hg1]; exact h0
    have en : n = ((n.toNat : Nat) : Int) := by omega
    have ht0 := h.mono K2.le fun _ _ h => h
    rw [en]
    refine impl_checkText ht0 hB hgb (by omega) (fun t ht => ?_) (fun t ht => ?_)
    · rw [pExtract_s rfl, pExtract_s rfl, pUn_not, pIf_b]
      refine ⟨fun h => by simp at h, fun _ => ?_⟩
      have ht' : textP B 0 (genP B).2.toNat 90 (areaI (genP B).1).toNat ⟨#[]⟩ = some t := by rw [hg1, hg2]; exact ht
      have htz := textP_size _ _ _ ht
      intro n0 q1 q2
      have kn : Keeps s2 (s2.put n0 ⟨t_string, [], 0, (0, 0)⟩) := Keeps.put q2
      have on := OAcc.new (w0 := w0) (σ := s2) (ety := t_string) (n := 1) (O := OStr) q1
      have hn0 : ∀ i, i ∈ [n0] → σ i = none := fun i hi => by
        rw [List.mem_singleton.1 hi]
        cases hs : σ n0 with
        | none => rfl
        | some r => rw [K2 n0 r hs] at q2; cases q2
      rw [pVal1 rfl, pVal1 rfl, pVal1 rfl, pVal1 rfl, pVal_4 rfl rfl rfl rfl]
      refine loop_rule (m := 13) (fun m l s => ∃ (gs : List ByteArray) (gv : Value) (F : List Nat) (nx : Nat), m + gs.length = 13 ∧ gs.length ≤ nx ∧ nx ≤ 12 ∧ Keeps σ s ∧ (∀ i, i ∈ F → σ i = none) ∧ OAcc w0 t_string 1 OStr s F gv gs ∧ groupsP B gen 13 [] 0 = groupsP B gen m gs nx ∧ l = [.bool false, .int .i64 gen, v, .int .i64 0, .string ⟨#[]⟩, .slice none 0 0, .int .i64 0, .int .i64 gen, .string t, gv, .int .i64 (nx : Nat)]) ?_
        ⟨[], _, [n0], 0, rfl, Nat.le_refl _, by omega, K2.trans kn, hn0, on, rfl, rfl⟩
      rintro m l s L ⟨gs, gv, F, nx, hm, hgl, hnx, ks, hF, ho, hgr, rfl⟩ hL
      simp only [vget, List.getD_cons_zero, List.getD_cons_succ]
      obtain ⟨m, rfl⟩ : ∃ k, m = k + 1 := ⟨m - 1, by omega⟩
      unfold groupsP at hgr
      have hos := ho.osl.rel (ok_str w0)
      rw [hos.len]
      have hge := group_eq (B := B) (gen := gen) (k := gs.length) (a := nx) hsz hgb (by omega)
      refine impl_group tab mx er (h.mono ks.le fun _ _ h => h) hB hgb (by omega) (fun g s3 hgp3 k3 => ?_) (fun z s3 hgp3 k3 => ?_)
      · rw [hgp3] at hge
        simp only [Option.map_some] at hge
        obtain ⟨c1, c2, c3, c4, _⟩ := group_facts hsz hge
        have hb := blk_600 c1
        rw [hge] at hgr
        simp only at hgr
        rw [pExtract_s rfl, pExtract_s rfl, pUn_not, pIf_b]
        refine ⟨fun h => by simp at h, fun _ => ?_⟩
        have ho3 := ho.frame (ok_str w0) (k3.but_at fun b hb => (ho.dom (ok_str w0) b hb).2)
        refine str_app ho3 (by omega) (by omega) fun gv' F' s4 k4 o4 f4 => ?_
        rw [pVal1 (OSl.one' o4.osl), pLenS_s]
        refine impl_groupBlocks (by omega) ?_
        rw [pBin_add (by omega), pVal1 rfl]
        have K3 := ks.trans k3
        refine hL _ _ m rfl ⟨gs ++ [g], gv', F', nx + blkN g, by simp; omega, by simp; omega, by omega, k4.old K3 hF, fresh_in K3 hF f4, o4, hgr, ?_⟩
        congr 1
      · rw [hgp3] at hge
        simp only [Option.map_none] at hge
        rw [hge] at hgr
        simp only at hgr
        have hgr1 : (groupsP B (genP B).1 13 [] 0) = (gs, nx) := by rw [hg1]; exact hgr
        rw [pExtract_s rfl, pExtract_s rfl, pUn_not, pIf_b]
        refine ⟨fun _ => ?_, fun h => by simp at h⟩
        have K3 := ks.trans k3
        have ho3 := ho.frame (ok_str w0) (k3.but_at fun b hb => (ho.dom (ok_str w0) b hb).2)
        refine last gen (.string t) gv t gs F nx s3 rfl hgb hnx K3 ho3 (fun hc s4 k4 => ?_) (fun hc => ?_)
        · have e := open_clean hB hne ht' (by rw [hgr1, hg1]; exact hc)
          rw [hgr1, hg1] at e
          have ho4 := ho3.frame (ok_str w0) (k4.but_at fun b hb => (ho3.dom (ok_str w0) b hb).2)
          have := hR [.int .i64 gen, .string t, gv, .int .i64 (nx : Nat)] F s4 (K3.trans k4) (by rw [openR_some e]; exact ⟨gv, rfl, ho4, by unfold rng'; simp only; omega, by simp only; omega, by unfold rng'; simp only; omega⟩) hF
          rw [openR_some e] at this
          exact this
        · exact open_dirty hB hne ht' (by rw [hgr1, hg1]; exact hc)
    · rw [pExtract_s rfl, pExtract_s rfl, pUn_not, pIf_b]
      refine ⟨fun _ => ?_, fun h => by simp at h⟩
      rw [pVal_4 rfl rfl rfl rfl]
      exact fail s2 K2 (open_text hB hne (by rw [hg1, hg2]; exact ht))
  rw [pBin_gt, pIf_d]
  refine ⟨fun hgt => ?_, fun hle => ?_⟩
  · exact rest _ _ (by unfold genP; rw [if_pos (by simpa using hgt)]; rfl)
  · exact rest _ _ (by unfold genP; rw [if_neg (by simpa using hle)]; rfl)
end
end Go.Proofs.YtlfnfpdipghdiaaGreatDoor

/- The law: opening twice is opening once. -/
set_option linter.unusedVariables false
set_option linter.unusedSimpArgs false
set_option maxRecDepth 20000
namespace Go.Proofs.YtlfnfpdipghdiaaGreatDoor
open Go Go.Av Go.RowKit

section
variable {w0 : World} {σ : Vw}

theorem law_StoreOpen (tab : Tab w0) (mx : MaxL w0) (er : ErrL w0) {u : Value} {bs : List Nat} (h : Codes w0 u bs) {R : Value → Vw → Prop} (hR : ∀ s, R (.bool true) s) : AC Tryz.prog w0 n_laws_FnStoreOpen [u] σ R := by
  refine ac_laws_FnStoreOpen ?_
  unfold vc_laws_FnStoreOpen
  rw [(h.at (σ := σ)).len, pBin_gt, pIf_d]
  refine ⟨fun _ => hR _, fun _ => ?_⟩
  refine spec_DrawStoreOpen h fun v B s hv hBl => ?_
  rw [pVal_1 hv.one]
  simp only [cellOf_agg, List.getD_cons_zero]
  refine impl_StoreOpen tab mx er hv fun es1 F1 s1 k1 a1 f1 => ?_
  have r1 := a1.rsto
  rw [pExtract_s rfl, pExtract_s rfl, r1.four]
  refine spec_StoreOpen (hv.mono k1.le fun _ _ h => h) fun es2 F2 s2 k2 a2 f2 => ?_
  have r2 := a2.rsto
  rw [pExtract_s rfl, pExtract_s rfl, r2.four, pB_ne (by kernel_rfl), pIf_b]
  refine ⟨fun h => by simp at h, fun _ => ?_⟩
  have r12 := mono_sto k2.le r1
  have r120 := r12
  obtain ⟨g1, rfl⟩ := r1.shape
  have r20 := r2
  obtain ⟨g2, rfl⟩ := r2.shape
  simp only [cellOf_agg, List.getD_cons_zero, List.getD_cons_succ]
  refine wdStore r120 r20 ?_
  rw [pUn_not, pIf_b]
  refine ⟨fun h => by simp at h, fun _ => ?_⟩
  rw [pUn_not, pIf_b]
  cases hop : openP B with
  | none =>
    rw [openR_none hop]
    refine ⟨fun _ => ?_, fun h => by simp at h⟩
    rw [pBin_eq]
    exact hR _
  | some x =>
    rw [openR_some hop] at r120 ⊢
    dsimp only at r120 ⊢
    refine ⟨fun h => by simp at h, fun _ => ?_⟩
    have hst := (open_ok hop).1
    obtain ⟨q1, q2, q3, q4, q5⟩ := stOk_of hst
    refine impl_StoreAppend tab r120 (by omega) (Nat.zero_le _) fun v3 es3 F3 G3 s3 k3 o3 p3 f3 g3 d3 => ?_
    have r3 := (ok_sto w0).rel _ _ _ _ p3
    rw [pExtract_s rfl, pExtract_s rfl, pExtract_s rfl, r3.four, pBin_le, pIf_d]
    refine ⟨fun _ => ?_, fun h => absurd q4.2 h⟩
    rw [pLenS_s, pBin_le, pIf_d]
    refine ⟨fun _ => ?_, fun h => absurd (by omega) h⟩
    rw [pBin_eq, pIf_d]
    refine ⟨fun _ => hR _, fun h4 => ?_⟩
    rcases open_more hst with e | ⟨e, el⟩
    · exact absurd e h4
    · rw [pBin_eq, pIf_d]
      refine ⟨fun _ => ?_, fun h => absurd e h⟩
      obtain ⟨g, ge, hg, _⟩ := r3
      obtain ⟨g', ge', hg', _⟩ := r120
      simp only [List.cons.injEq, and_true] at ge'
      obtain ⟨_, _, rfl, _⟩ := ge'
      rw [ge]
      simp only [cellOf_agg, List.getD_cons_zero, List.getD_cons_succ]
      rw [hg.len, hg'.len, pBin_add (by omega), pBin_eq, decide_eq_true (by omega)]
      exact hR _
end
end Go.Proofs.YtlfnfpdipghdiaaGreatDoor

/- The law FnStoreOpen holds: it returns true, and the input reads as it did. No condition. -/
namespace Go.Proofs.YtlfnfpdipghdiaaGreatDoor.fnStoreOpen
open Go.ChangeShapes Go.WideShapes Go.ChangeAt Go.RowKit Go.Av
set_option linter.unusedVariables false
set_option linter.unusedSimpArgs false
theorem own : ownKnob Tryz.prog.godebug = none := by kernel_rfl
theorem laidOut : laidOutB Tryz.prog = true := by kernel_rfl
abbrev laidL : List (String × DataW Unit) := [("math/bits.deBruijn32tab", Rows.laid_math_bits_deBruijn32tab), ("math/bits.deBruijn64tab", Rows.laid_math_bits_deBruijn64tab), ("internal/strconv.uint64pow10", Rows.laid_internal_strconv_uint64pow10), ("unicode/utf8.acceptRanges", Rows.laid_unicode_utf8_acceptRanges), ("strconv.ErrRange", Rows.laid_strconv_ErrRange), ("strconv.ErrSyntax", Rows.laid_strconv_ErrSyntax), ("unicode/utf8.first", Rows.laid_unicode_utf8_first)]
theorem max_of {W : World} (h : W.ShapedOpen Tryz.prog) : MaxL W := by
  obtain ⟨m, hm⟩ := cell_of_shapedOpen_int (g := 0) (t := 3) (zero := #[.int .i64 0]) (k := .i64) h (of_decide_eq_true (by kernel_rfl)) (by kernel_rfl) rfl (by kernel_rfl) (by kernel_rfl) (by kernel_rfl)
  refine ⟨m, fun w hw => ?_⟩
  have hlt : (0 : Nat) < W.heap.size := by
    rcases Nat.lt_or_ge 0 W.heap.size with h' | h'
    · exact h'
    · simp [World.cell?, Array.getElem?_eq_none h'] at hm
  rw [← hm]
  exact hw.cell hlt
/-- The wrap with a condition of its own, the world's shape kept. -/
theorem wrap {H : Type} {enc : TypeId × Value → H} {a : Assume} {C : Checked} {os : Os} {f : FuncId} {fn : Func} {s : ChangeSpec} {conds : List PathCond} {apart fresh handsOn again : Bool} {X : World → Array Value → Prop}
    (own : ownKnob C.prog.godebug = none) (started : os.Started) (noInit : C.prog.inits.idxOf? f = none) (hfn : C.prog.funcs[f]? = some fn)
    (witness : ∃ (w : World) (tape : Tape) (i : Input), w.os = os ∧ (w.forCall tape i).Shaped C.prog ∧ i.vars = [] ∧ Input.okWide C.prog (w.forCall tape i) .any w.heap.size f i ∧
      ((s.pre enc C.prog fn conds apart (w.forCall tape i).memory i.args ∧ X (w.forCall tape i).memory i.args) ∧ sizedMet enc C.prog fn (OpenSpec.ofChange s) apart (w.forCall tape i).memory i.args) ∧ a.holds C.prog (lone (Frame.enter C.prog f i.args .normal) [] (w.forCall tape i)))
    (hof : ∀ (w w' : World) (args : Array Value), w'.heap = w.heap → X w args → X w' args)
    (contract : ∀ (W : World) (base : Nat) (args : Array Value) (ds gs : List (DataW H)) (before : List MemPlace),
      (∀ (j : Nat) t v, fn.params[j]? = some t → args[j]? = some v → Value.okWide C.prog W .any base t v) →
      DataW.Whole enc C.prog fn.params.toList s.vars apart W args.toList ds gs before → W.ShapedOpen C.prog → X W args →
      Calls C.prog f args W fun e W' => ∃ v, e = .returned v ∧ s.post enc C.prog fn apart fresh handsOn again W args v W') :
    ReturnsInHanded a C os f .any (fun w args => (s.pre enc C.prog fn conds apart w args ∧ X w args) ∧ sizedMet enc C.prog fn (OpenSpec.ofChange s) apart w args) (s.post enc C.prog fn apart fresh handsOn again) := by
  refine returnsInHanded_of_calls own started noInit witness ?_
  intro w tape i _ hsh _ hok hpre hholds
  obtain ⟨_, _, _, fn', hfn', _, _, _, _, hval⟩ := hok
  have e : fn' = fn := Option.some.inj (hfn'.symm.trans hfn)
  subst e
  obtain ⟨⟨⟨ds, gs, before, hw, hc⟩, hx⟩, hz⟩ := hpre
  have hw' := DataW.Whole.of_heap (w' := w.forCall tape i) (by rfl) hw
  refine (contract (w.forCall tape i) w.heap.size i.args ds gs before hval hw' hsh (hof (w.forCall tape i).memory _ _ rfl hx)).mono fun e W' ⟨v, he, hp⟩ => ?_
  subst he
  exact ChangeSpec.post_blind hp
theorem gPow : Tryz.prog.globalNamed "internal/strconv.uint64pow10" = some 3 := by kernel_rfl
theorem tab_of {W : World} (h : laidMetH Tryz.prog laidL W) : Tab W := by
  rw [MakeChecks.laidMetH_plain _ _ _ (by kernel_rfl)] at h
  have h3 := laidMet.tail (laidMet.tail (h))
  have e : (Rows.laid_internal_strconv_uint64pow10 : DataW Unit) = Lib.tabData .u64 Lib.pow10Tab := by kernel_rfl
  rw [e] at h3
  have ht : Lib.TabIs Tryz.prog W "internal/strconv.uint64pow10" .u64 Lib.pow10Tab := Lib.tabIs_of_head (n := 20) (t := 127) (e := 114) gPow (by kernel_rfl) (by kernel_rfl) (by kernel_rfl) (by kernel_rfl) (by kernel_rfl) h3
  intro w hw
  refine var?_below hw gPow ?_ ht
  rcases Nat.lt_or_ge 3 W.heap.size with h' | h'
  · exact h'
  · simp [Lib.TabIs, World.var?, gPow, Array.getElem?_eq_none h'] at ht
theorem star : "*" ++ "errors.errorString" = "*errors.errorString" := by decide
theorem rowE (u : TypeId) (h : Tryz.prog.typeName? 3 u = some "*errors.errorString") : u = 140 :=
  typeName_ptr_named (nm := "errors.errorString") (by rw [star]; kernel_rfl) (by kernel_rfl) (by decide) u (by rw [star]; exact h)
theorem gSyn : Tryz.prog.globalNamed "strconv.ErrSyntax" = some 1 := by kernel_rfl
theorem gRan : Tryz.prog.globalNamed "strconv.ErrRange" = some 2 := by kernel_rfl
theorem low_of {W : World} {n : String} {g : Nat} {cs : Array Value} (hg : Tryz.prog.globalNamed n = some g) (h : W.var? Tryz.prog n = some cs) : g < W.heap.size := by
  rcases Nat.lt_or_ge g W.heap.size with h' | h'
  · exact h'
  · simp [World.var?, hg, Array.getElem?_eq_none h'] at h
theorem err_of {W : World} (h : laidMetH Tryz.prog laidL W) : ErrL W := by
  rw [MakeChecks.laidMetH_plain _ _ _ (by kernel_rfl)] at h
  have hr := laidMet.tail (laidMet.tail (laidMet.tail (laidMet.tail (h))))
  have hs := laidMet.tail (laidMet.tail (laidMet.tail (laidMet.tail (laidMet.tail (h)))))
  obtain ⟨a, t, hv, _⟩ := laid_sentinel hs gSyn (ti := 95)  (by kernel_rfl) Tryz.underlying95 rowE (te := 142) (by kernel_rfl) (f := (fsOf Tryz.prog 142)[0]!) (ts := 9) (by kernel_rfl) (by kernel_rfl) (by kernel_rfl) (by kernel_rfl) (by kernel_rfl) (by kernel_rfl)
  obtain ⟨a', t', hv', _⟩ := laid_sentinel hr gRan (ti := 95)  (by kernel_rfl) Tryz.underlying95 rowE (te := 142) (by kernel_rfl) (f := (fsOf Tryz.prog 142)[0]!) (ts := 9) (by kernel_rfl) (by kernel_rfl) (by kernel_rfl) (by kernel_rfl) (by kernel_rfl) (by kernel_rfl)
  exact ⟨_, _, _, _, fun w hw => ⟨var?_below hw gSyn (low_of gSyn hv) hv, var?_below hw gRan (low_of gRan hv') hv'⟩⟩
set_option maxRecDepth 100000 in
theorem lifted (os : Os) (started : os.Started) (H : Type) (enc : TypeId × Value → H) :
    ReturnsInHanded {} Tryz.checked os 4 .any (fun w args => (Rows.fnStoreOpenSpec.pre enc Tryz.prog Tryz.f4 [] false w args ∧ laidMetH Tryz.prog laidL w) ∧ sizedMet enc Tryz.prog Tryz.f4 (OpenSpec.ofChange Rows.fnStoreOpenSpec) false w args)
      (Rows.fnStoreOpenSpec.post enc Tryz.prog Tryz.f4 false true false false) := by
  refine wrap (C := Tryz.checked) (X := fun w _ => laidMetH Tryz.prog laidL w) own started (by kernel_rfl) Tryz.func4
    (ChangeSpec.witness_shaped (enc := enc) (C := Tryz.checked) (os := os) (X := fun w _ => laidMetH Tryz.prog laidL w) false (World.laidAll Tryz.prog os laidL) #[.slice none 0 0] 8 (World.laidAll_os _ _ _)
      (World.shaped_of_ZipB (by kernel_rfl) (by kernel_rfl)) (by kernel_rfl) (by kernel_rfl) (by kernel_rfl)
      (by rw [MakeChecks.laidMetH_plain _ _ _ (by kernel_rfl)]; exact laidMet_laidAll _ (by kernel_rfl) (by kernel_rfl))) (fun _ _ _ hh h => h.of_heap hh.symm) ?_
  intro W base args ds gs before hval0 hW hsh hL
  have hval : ∀ (j : Nat) t v, Tryz.f4.params[j]? = some t → args[j]? = some v → Value.okWide Tryz.prog W .any base t v := hval0
  have hW' := hW
  obtain ⟨p, q, hA0, hV, rfl, hfz, hnd⟩ := hW
  have hA : DataW.TrodAll enc Tryz.prog W 0 (fun _ => true) true Tryz.f4.params.toList args.toList ds p := hA0
  rw [Tryz.params4] at hA hval
  obtain ⟨v0, d0, rfl, rfl, h0⟩ := trodAll_one hA
  obtain ⟨rfl, rfl⟩ := trodVars_none hV
  obtain ⟨A0, len0, cap0, rfl⟩ := okWide_slice (t := 22) (e := 5) (by kernel_rfl) (hval 0 22 v0 rfl rfl)
  have h0k := h0
  obtain ⟨fuel0, hf0⟩ := h0
  clear hA0 hval0
  simp only [List.append_nil] at hW'
  have hlt : ∀ x ∈ p, x.block < W.heap.size := fun x hx => by simpa using hW'.lt x hx
  have hargs0 : ∀ (W' : World), Below W.heap.size W W' → DataW.Trod enc Tryz.prog W' 0 (fun b => decide (b < W.heap.size)) true 22 (.slice A0 len0 cap0) d0 p :=
    fun W' hn => Below.trod laidOut (by kernel_rfl) (of_decide_eq_true (by kernel_rfl)) h0k hn hlt
  obtain ⟨u0, x0, hu0, r0⟩ := open_rsl (t := t_s_uint8) (e := t_uint8) (by kernel_rfl) (by kernel_rfl) open_byteD hf0
  have hu0' : u0 = .slice A0 len0 cap0 := by
    have : [Value.slice A0 len0 cap0] = [u0] := hu0
    cases this; rfl
  subst hu0'
  refine ((law_StoreOpen (tab_of hL) (max_of hsh) (err_of hL) (R := fun v _ => v = .bool true) r0 (by intros; rfl)).calls).mono fun e W' ⟨v, σ', he, hv, bel⟩ => ?_
  subst he hv
  exact ⟨_, rfl, _, _, _, [], _, [], hW', trodAll_mk1 (shut_bool Tryz.underlying4 _), trodAll_mk1 (hargs0 W' bel), rfl, bel.frame _, fun h => by cases h⟩
theorem over : Rows.fnStoreOpenRow.holds Tryz.pinned (OpenSpec.ofChange Rows.fnStoreOpenSpec) :=
  OpenClaim.holds_of_wide 4 Tryz.f4 rfl rfl rfl rfl rfl rfl rfl ⟨rfl, rfl, rfl, rfl, rfl⟩ rfl rfl rfl rfl rfl (by kernel_rfl) Tryz.func4 (by kernel_rfl)
    (of_decide_eq_true (by kernel_rfl)) (by unfold Func.isWrapper; first | (rw [if_pos (by decide +kernel)]; kernel_rfl) | (rw [if_neg (by decide +kernel)]; exact ⟨rfl, rfl⟩))
    (fun os started H enc _ => lifted os started H enc)
/-- THE TIED CARD. -/
theorem proved : Rows.FnStoreOpenCardSaid :=
  Claim7.holds_tied_plain_at .later [] [.data, .data, .data, .data, .sentinel, .sentinel, .pinned] true (true, "688e450611f40eb416bb64e97047e4b96384ec6804f935a9b8489b4b55b0f0cc") true
    over (fun _ h => by cases h) (by kernel_rfl) (fun _ h => by cases h) fnStoreOpen_row_tie rfl ⟨rfl, rfl⟩ (by kernel_rfl) rfl
    (fun f fn hf hfn => by
      obtain rfl : f = 4 := Option.some.inj ((show Tryz.prog.funcNamed "loop.example/changetrail/laws.FnStoreOpen" = some 4 by kernel_rfl).symm.trans hf) |>.symm
      obtain rfl : fn = Tryz.f4 := (Option.some.inj (Tryz.func4.symm.trans hfn)).symm
      exact ⟨by kernel_rfl, fun j t ht => by
        rw [Tryz.params4] at ht
        have hm : t ∈ [22] := by simpa using Array.mem_of_getElem? ht
        have hall : ([22].all fun u => !Tryz.prog.wantsStandIn u) = true := by kernel_rfl
        exact (show Tryz.prog.wantsStandIn t = false by simpa using List.all_eq_true.1 hall t hm)⟩)
    (by kernel_rfl)
end Go.Proofs.YtlfnfpdipghdiaaGreatDoor.fnStoreOpen
namespace Go.Proofs.YtlfnfpdipghdiaaGreatDoor
/-- The row, under a short name, for the claim. -/
theorem fnStoreOpen_holds : Rows.FnStoreOpenCardSaid := fnStoreOpen.proved
end Go.Proofs.YtlfnfpdipghdiaaGreatDoor
