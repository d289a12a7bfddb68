/- The law FnExactPagesWrite holds: it returns true, and the input reads as it did. No condition. This is part 3 of 3 of its proof. -/
import Derived.Test.YtkbhjejalkbogaaDoorXFnExactPagesWrite2
import Derived.BigCall
import Derived.BigGuard
import Derived.Lib.AppendStr
import Derived.Shelf.Strings.Builder1
import Derived.Shelf.Strings.Builder2
import Derived.Lib.AppendIntMem
import Derived.Test.YtkbhjejalkbogaaDoorRows
import Derived.WalkKit
import Derived.ProofKit
import Derived.OpenShut
import Derived.ShutString
import Derived.ChangeOld
import Derived.Below
import Derived.Carry
import Derived.SizedLaws
import Derived.LaidMore
import Derived.Stop.Joined
import Derived.Stop.LaidErr
import Derived.Lib.LaidTab
import Derived.WalkSmall
import Derived.MakeChecks
import Derived.SevenTiedAt
import Derived.Test.YtkbhjejalkbogaaDoorCards
import Derived.Test.YtkbhjejalkbogaaDoorTie

/- Texts as lists of bytes; what is cut at a byte; decimals. Plain. -/
set_option linter.unusedVariables false
set_option linter.unusedSimpArgs false
namespace Go.Av
open Go Go.RowKit

abbrev bl (s : ByteArray) : List UInt8 := s.data.toList
def ofL (l : List UInt8) : ByteArray := ⟨l.toArray⟩
theorem bl_ofL (l : List UInt8) : bl (ofL l) = l := rfl
theorem bl_inj {a b : ByteArray} (h : bl a = bl b) : a = b := by
  cases a; cases b
  simp only [ByteArray.mk.injEq]
  exact Array.toList_inj.1 h
theorem ofL_bl (s : ByteArray) : ofL (bl s) = s := bl_inj (bl_ofL _)
theorem size_bl (s : ByteArray) : (bl s).length = s.size := by
  show s.data.toList.length = s.data.size
  simp
theorem size_ofL (l : List UInt8) : (ofL l).size = l.length := by rw [← size_bl, bl_ofL]
theorem bl_append (a b : ByteArray) : bl (a ++ b) = bl a ++ bl b := by
  show (a ++ b).data.toList = _
  rw [ByteArray.data_append, Array.toList_append]
theorem ofL_append (a b : List UInt8) : ofL a ++ ofL b = ofL (a ++ b) := bl_inj (by rw [bl_append, bl_ofL, bl_ofL, bl_ofL])
theorem bl_byte (n : Nat) : bl (strOfNums [((n % 256 : Nat) : Int)]) = [UInt8.ofNat n] := by
  simp only [bl, strOfNums, List.map_cons, List.map_nil]
  congr 1
  apply UInt8.toNat_inj.1
  simp
  omega

/-! ### Decimals -/
def dig (n : Nat) : UInt8 := UInt8.ofNat (48 + n % 10)
def decL (k : Nat) : List UInt8 := if h : k < 10 then [dig k] else decL (k / 10) ++ [dig k]
termination_by k
decreasing_by omega
theorem decL_small {k : Nat} (h : k < 10) : decL k = [dig k] := by rw [decL, dif_pos h]
theorem decL_big {k : Nat} (h : ¬ k < 10) : decL k = decL (k / 10) ++ [dig k] := by rw [decL, dif_neg h]
theorem decL_len (k : Nat) : 1 ≤ (decL k).length ∧ (decL k).length ≤ k / 10 + 1 := by
  induction k using Nat.strongRecOn with
  | _ k ih =>
    by_cases h : k < 10
    · rw [decL_small h]; simp
    · rw [decL_big h]
      have := ih (k / 10) (by omega)
      simp only [List.length_append, List.length_singleton]
      omega
/-- A number's figures. -/
def decN (k : Nat) : ByteArray := ofL (decL k)
def minText : ByteArray := ⟨#[45, 57, 50, 50, 51, 51, 55, 50, 48, 51, 54, 56, 53, 52, 55, 55, 53, 56, 48, 56]⟩
def decZ (n : Int) : ByteArray := if n < 0 then ⟨#[45]⟩ ++ decN (-n).toNat else decN n.toNat
theorem decN_size (k : Nat) : 1 ≤ (decN k).size ∧ (decN k).size ≤ k / 10 + 1 := by
  rw [decN, size_ofL]; exact decL_len k
theorem decZ_nat (k : Nat) : decZ (k : Int) = decN k := by
  unfold decZ
  rw [if_neg (by omega), Int.toNat_natCast]
end Go.Av

/- strings.Builder: a text is written, and all but the builder and its row stands as it stood. -/
set_option linter.unusedVariables false
set_option linter.unusedSimpArgs false
namespace Go.Proofs
open Go.Shelf Go.RowKit

/-- What a write leaves: every block but the builder's and its row's. -/
def Rest (b : Nat) (row : Option Nat) (w w' : World) : Prop := ∀ k, k < w.heap.size → k ≠ b → row ≠ some k → w'.heap[k]? = w.heap[k]?

/-- Where what is appended to a list of bytes lies: in its row, or in a new one. -/
theorem append_place {P : Program} (w : World) (base : Nat) (t u ty e : TypeId) (i : TypeInfo) (ht : P.underlying t = some (.slice e)) (hu : P.underlying u = some .string) (hi : P.info? e = some i) (hz : i.zero = some (.int .u8 0))
    (hsize : i.size = 1) (hby : i.bytes = 1) (v : Value) (n : Nat) (xs : List Value) (hown : w.ownsRow base e 1 v n xs) (s : ByteArray)
    (h63 : n + s.size ≤ maxLen) (hbytes : n + s.size ≤ 140737488355328) (hbase : base ≤ w.heap.size) :
    ∃ v' w', (Builtin.append_ #[t, u] ty #[v, .string s]).run P w = .ok v' w' ∧ w'.ownsRow base e 1 v' (n + s.size) (xs ++ Lib.strCells s) ∧ w.grownBy w' v.ownBlock ∧
      (v'.ownBlock = v.ownBlock ∨ ∀ g, v'.ownBlock = some g → w.heap.size ≤ g) := by
  obtain ⟨v', w', hr, h2, h3, _⟩ := Lib.run_append_own_string (P := P) w base t u ty e i ht hu hi hz hsize hby v n xs hown s h63 hbytes hbase
  refine ⟨v', w', hr, h2, h3, ?_⟩
  have hxl : xs.length = n := by simpa using hown.1
  rcases hown.2 with ⟨rfl, rfl⟩ | ⟨g, cap, cur, rfl, hbg, hg, hnc, hcm, hcs, htake⟩
  · have hown2 : w.ownsRow w.heap.size e 1 (.slice none 0 0) 0 xs := ⟨by simpa using hxl, .inl ⟨rfl, rfl⟩⟩
    obtain ⟨v2, w2, hr2, q2, _, _⟩ := Lib.run_append_own_string (P := P) w w.heap.size t u ty e i ht hu hi hz hsize hby (.slice none 0 0) 0 xs hown2 s h63 hbytes (Nat.le_refl _)
    have e2 := hr.symm.trans hr2
    cases e2
    refine .inr fun g hg => ?_
    rcases q2.2 with ⟨rfl, _⟩ | ⟨g', cap, cur, rfl, hbg, _⟩
    · cases hg
    · cases hg; exact hbg
  · by_cases hroom : n + s.size ≤ cap
    · have hr2 := Lib.run_append_room_string (P := P) w t u ty e i ht hu hi hsize g n cap cur hg s hroom (by omega)
      have e2 := hr.symm.trans hr2
      cases e2
      exact .inl rfl
    · have holds : ∀ j u, xs[j]? = some u → w.cell? ((⟨g, 0, none⟩ : Addr).add j) = some u := hown.cells (g := g) rfl
      have hr2 := Lib.run_append_grow_string (P := P) w t u ty e i (.int .u8 0) ht hu hi hz ⟨g, 0, none⟩ n cap xs (by rw [hsize]; simpa using hxl) holds s (by omega) (by simp only [maxLen] at h63; omega) (by rw [hby]; exact growslice_fits (by omega) (by omega))
      have e2 := hr.symm.trans hr2
      cases e2
      refine .inr fun g hg => ?_
      cases hg; exact Nat.le_refl _
theorem wp_append_place {P : Program} {w : World} {ops : Array Oper} {rest : List Oper} {o : Oper} {a : Act} {Q : Exit → Act → World → Prop} (hgd : o.guard = none) (sl x : Operand) (t u : TypeId)
    (ho : o.op = .call { callee := .builtin .append, args := #[sl, x], argTypes := #[t, u] })
    (base : Nat) (e : TypeId) (i : TypeInfo) (ht : P.underlying t = some (.slice e)) (hu : P.underlying u = some .string) (hi : P.info? e = some i) (hz : i.zero = some (.int .u8 0))
    (hsize : i.size = 1) (hby : i.bytes = 1) (v : Value) (n : Nat) (xs : List Value) (hs : a.eval sl = v) (hown : w.ownsRow base e 1 v n xs) (s : ByteArray) (hx : a.eval x = .string s)
    (h63 : n + s.size ≤ maxLen) (hbytes : n + s.size ≤ 140737488355328) (hbase : base ≤ w.heap.size)
    (h : ∀ v' w', w'.ownsRow base e 1 v' (n + s.size) (xs ++ Lib.strCells s) → w.grownBy w' v.ownBlock → (v'.ownBlock = v.ownBlock ∨ ∀ g, v'.ownBlock = some g → w.heap.size ≤ g) → wpList P ops Q rest (a.put o.dst v') w') : wpList P ops Q (o :: rest) a w := by
  refine wpList_plain hgd fun K hK => ?_
  obtain ⟨v', w', hr, h2, h3, h4⟩ := append_place (P := P) w base t u o.type e i ht hu hi hz hsize hby v n xs hown s h63 hbytes hbase
  unfold Oper.wp execOp
  simp only [ho, resolve, invoke, builtin, Sem.run_bind, Sem.run_pure, Result.andThen_ok, List.map_toArray, List.map_cons, List.map_nil, hs, hx, hr]
  exact hK _ _ (h v' w' h2 h3 h4)

set_option maxHeartbeats 4000000 in
set_option maxRecDepth 100000 in
theorem Tryd.check_exact (B b : Nat) (p v : Value) (bs : List Value) (w : World) (hp : p = .pointer none ∨ p = .pointer (some ⟨b, 0, none⟩)) (hB : B ≤ b) (hbk : w.heap[b]? = some (.cells #[p, v] (Tryd.laysB_ren.t 72) (0, 0))) (hown : w.ownsRow B (Tryd.laysB_ren.t 5) 1 v bs.length bs) (hne : v.ownBlock ≠ some b) :
    Calls Tryd.prog (Tryd.laysB_ren.f 240) #[.pointer (some ⟨b, 0, none⟩)] w fun e w1 => e = .returned (.tuple #[]) ∧
      w1.heap[b]? = some (.cells #[.pointer (some ⟨b, 0, none⟩), v] (Tryd.laysB_ren.t 72) (0, 0)) ∧ w1.ownsRow B (Tryd.laysB_ren.t 5) 1 v bs.length bs ∧ (∀ k, k ≠ b → w1.heap[k]? = w.heap[k]?) ∧ w1.heap.size = w.heap.size ∧ Below B w w1 := by
  have h0 : w.cell? ⟨b, 0, none⟩ = some p := by rw [Lib.cell_of_heap hbk]; rfl
  rcases hp with rfl | rfl
  · have hAt : Lib.BuilderAt (Tryd.laysB_ren.t 72) (Tryd.laysB_ren.t 5) B b (.pointer none) bs w := ⟨hB, v, hbk, hown, hne⟩
    refine (Any.Builder_copyCheck_fresh Tryd.laysB240 Tryd.laysB_extra.toX72 b w hAt.cell0 hAt.shape hAt.frozen0).mono ?_
    rintro e w1 ⟨rfl, rfl⟩
    have hk : ∀ k, k ≠ b → (w.setCell ⟨b, 0, none⟩ (.pointer (some ⟨b, 0, none⟩))).heap[k]? = w.heap[k]? := fun k hk => by
      have hk' : b ≠ k := fun e => hk e.symm
      simp [World.setCell, Array.getElem?_modify, hk']
    have hb1 : (w.setCell ⟨b, 0, none⟩ (.pointer (some ⟨b, 0, none⟩))).heap[b]? = some (.cells #[.pointer (some ⟨b, 0, none⟩), v] (Tryd.laysB_ren.t 72) (0, 0)) := by
      simp [World.setCell, Array.getElem?_modify, hbk]
    refine ⟨rfl, hb1, ?_, hk, by simp [World.setCell], (Below.refl B w).setCell (p := ⟨b, 0, none⟩) hB _⟩
    obtain ⟨g1, g2⟩ := hown
    refine ⟨g1, ?_⟩
    rcases g2 with g2 | ⟨g, cap, cur, rfl, q1, q2, q3⟩
    · exact .inl g2
    · refine .inr ⟨g, cap, cur, rfl, q1, ?_, q3⟩
      rw [hk g (fun e => hne (by rw [← e]; rfl))]; exact q2
  · refine (Any.Builder_copyCheck_used Tryd.laysB240 Tryd.laysB_extra.toX72 b w h0).mono ?_
    rintro e w1 ⟨rfl, rfl⟩
    exact ⟨rfl, hbk, hown, fun _ _ => rfl, rfl, Below.refl _ _⟩

set_option maxHeartbeats 4000000 in
set_option maxRecDepth 100000 in
theorem Tryd.write_exact (B b : Nat) (p v : Value) (bs : List Value) (s : ByteArray) (w : World) (hp : p = .pointer none ∨ p = .pointer (some ⟨b, 0, none⟩)) (hB : B ≤ b) (hbk : w.heap[b]? = some (.cells #[p, v] (Tryd.laysB_ren.t 72) (0, 0))) (hown : w.ownsRow B (Tryd.laysB_ren.t 5) 1 v bs.length bs) (hne : v.ownBlock ≠ some b) (hlen : bs.length + s.size ≤ 140737488355328) (hBw : B ≤ w.heap.size) :
    Calls Tryd.prog (Tryd.laysB_ren.f 166) #[.pointer (some ⟨b, 0, none⟩), .string s] w fun e w' => e = .returned (.tuple #[.int .i64 s.size, .nilIface]) ∧
      ∃ v', w'.heap[b]? = some (.cells #[.pointer (some ⟨b, 0, none⟩), v'] (Tryd.laysB_ren.t 72) (0, 0)) ∧ w'.ownsRow B (Tryd.laysB_ren.t 5) 1 v' (bs ++ Lib.strCells s).length (bs ++ Lib.strCells s) ∧ v'.ownBlock ≠ some b ∧ (v'.ownBlock = v.ownBlock ∨ ∀ g, v'.ownBlock = some g → w.heap.size ≤ g) ∧ Rest b v.ownBlock w w' ∧ Below B w w' ∧ w.heap.size ≤ w'.heap.size := by
  have L := Tryd.laysB166
  have X := Tryd.laysB_extra
  obtain ⟨i0, hi, hz0, hz1, hz2⟩ := info_parts X.infoByte
  have mixed := L.mixed
  have u72 := run_underlying L.t72; have u70 := run_underlying L.t70; have u37 := run_underlying L.t37; have u3 := run_underlying L.t3
  have u9 := run_underlying L.t9; have u4 := run_underlying L.t4; have u164 := run_underlying L.t164; have u5 := run_underlying X.t5
  have a72 := L.a72; have z72 := L.z72; have v72 := L.v72; have t72 := L.t72
  have a70 := L.a70; have z70 := L.z70; have v70 := L.v70; have t70 := L.t70
  have a37 := L.a37; have z37 := L.z37; have v37 := L.v37; have t37 := L.t37
  have a3 := L.a3; have z3 := L.z3; have v3 := L.v3; have t3 := L.t3
  have a9 := L.a9; have z9 := L.z9; have v9 := L.v9; have t9 := L.t9
  have a5 := X.a5; have z5 := X.z5; have v5 := X.v5; have t5 := X.t5
  have e240 : ∀ args w, (callFunc (Tryd.laysB_ren.f 240) args).run Tryd.prog w = .ok (.enter (Tryd.laysB_ren.f 240) args) w := enters_of L.f240 (by kernel_rfl) rfl
  go_enter L.f166, Body.n166_ntmps Tryd.laysB_ren
  go_wp2_with (go_at_fn (Tryd.laysB_ren.f 240); refine (Tryd.check_exact B b p v bs _ hp hB hbk hown hne).mono ?_)
  rintro e w1 ⟨rfl, hbk1, hown1, hk1, hs1, hb1⟩
  have c0 : w1.cell? ⟨b, 0, none⟩ = some (.pointer (some ⟨b, 0, none⟩)) := by rw [Lib.cell_of_heap hbk1]; rfl
  have c1 : w1.cell? ⟨b, 1, none⟩ = some v := by rw [Lib.cell_of_heap hbk1]; rfl
  go_wp2_with (at_builtin; refine wp_append_place rfl _ _ (Tryd.laysB_ren.t 37) (Tryd.laysB_ren.t 9) rfl B (Tryd.laysB_ren.t 5) i0 L.t37 L.t9 hi hz0 hz1 hz2 _ _ _ rfl hown1 s rfl ?c3 ?c4 ?c5 ?_)
  case c3 => unfold maxLen; omega
  case c4 => omega
  case c5 => omega
  intro v' w2 hown' hgrow hplace
  have hlt : b < w1.heap.size := by
    rcases Nat.lt_or_ge b w1.heap.size with h' | h'
    · exact h'
    · simp [Array.getElem?_eq_none h'] at hbk1
  have hb2 : w2.heap[b]? = some (.cells #[.pointer (some ⟨b, 0, none⟩), v] (Tryd.laysB_ren.t 72) (0, 0)) := by
    rw [hgrow.block b hlt (fun e => hne e.symm)]; exact hbk1
  have d0 : w2.cell? ⟨b, 0, none⟩ = some (.pointer (some ⟨b, 0, none⟩)) := by rw [Lib.cell_of_heap hb2]; rfl
  have d1 : w2.cell? ⟨b, 1, none⟩ = some v := by rw [Lib.cell_of_heap hb2]; rfl
  have f1 : w2.frozen? ⟨b, 1, none⟩ = false := Lib.frozen_of_heap hb2 1
  have hne' : v'.ownBlock ≠ some b := by
    rcases hplace with h | h
    · rw [h]; exact hne
    · intro e
      have := h b e
      omega
  obtain ⟨ao, n', cap, rfl⟩ : ∃ ao n' cap, v' = .slice ao n' cap := by
    rcases hown'.2 with ⟨hv, _⟩ | ⟨g, cap, cur, hv, _⟩
    · exact ⟨_, _, _, hv⟩
    · exact ⟨_, _, _, hv⟩
  go_wp2
  go_ret2
  have hput := Lib.BuilderAt.put (T := (Tryd.laysB_ren.t 72)) (e := (Tryd.laysB_ren.t 5)) hB hb2 (bs' := bs ++ Lib.strCells s) (by simpa [Lib.strCells_length] using hown') X.neB5
  obtain ⟨_, v2, hv2, hown2, hne2⟩ := hput
  have hv3 : (w2.setCell ⟨b, 1, none⟩ (.slice ao n' cap)).heap[b]? = some (.cells #[.pointer (some ⟨b, 0, none⟩), .slice ao n' cap] (Tryd.laysB_ren.t 72) (0, 0)) := by
    simp [World.setCell, Array.getElem?_modify, hb2]
  rw [hv3] at hv2
  have e3 : (.slice ao n' cap : Value) = v2 := by simp at hv2; exact hv2
  subst e3
  refine ⟨rfl, _, hv3, hown2, hne', ?_, fun k hk hkb hrow => ?_, ?_, ?_⟩
  · exact hplace
  · have hkb' : b ≠ k := fun e => hkb e.symm
    have e4 : (w2.setCell ⟨b, 1, none⟩ (.slice ao n' cap)).heap[k]? = w2.heap[k]? := by simp [World.setCell, Array.getElem?_modify, hkb']
    rw [e4, hgrow.block k (by omega) (fun e => hrow e.symm), hk1 k hkb]
  · exact (hb1.grown hgrow (by omega) (fun k hk => (hown1.lt k hk).1)).setCell (p := ⟨b, 1, none⟩) hB _
  · have := hgrow.size
    have e5 : (w2.setCell ⟨b, 1, none⟩ (.slice ao n' cap)).heap.size = w2.heap.size := by simp [World.setCell]
    omega
end Go.Proofs

/- strings.Builder in a view: a text is written. -/
set_option linter.unusedVariables false
set_option linter.unusedSimpArgs false
namespace Go.Proofs.YtkbhjejalkbogaaDoor
open Go Go.Av Go.RowKit

/-- A builder in rows of our own, and the bytes that it holds. -/
def BV (w0 : World) (σ : Vw) (b : Nat) (F : List Nat) (bs : List Value) : Prop :=
  w0.heap.size ≤ b ∧ ∃ p v, (p = .pointer none ∨ p = .pointer (some ⟨b, 0, none⟩)) ∧ σ b = some ⟨Tryd.laysB_ren.t 72, [p, v], 2, (0, 0)⟩ ∧
    ((v = .slice none 0 0 ∧ bs = [] ∧ F = [b]) ∨ ∃ q cap, v = .slice (some ⟨q, 0, none⟩) bs.length cap ∧ w0.heap.size ≤ q ∧ q ≠ b ∧ σ q = some ⟨Tryd.laysB_ren.t 5, bs, cap, (0, 0)⟩ ∧ bs.length ≤ cap ∧ cap ≤ maxLen ∧ F = [b, q])

section
variable {w0 : World} {σ : Vw}

theorem BV.new {b : Nat} (hb : w0.heap.size ≤ b) : BV w0 (σ.put b ⟨Tryd.laysB_ren.t 72, [.pointer none, .slice none 0 0], 2, (0, 0)⟩) b [b] [] :=
  ⟨hb, _, _, .inl rfl, put_at, .inl ⟨rfl, rfl, rfl⟩⟩
theorem BV.frame {σ' : Vw} {b : Nat} {F : List Nat} {bs : List Value} (h : BV w0 σ b F bs) (hF : ∀ i, i ∈ F → σ' i = σ i) : BV w0 σ' b F bs := by
  obtain ⟨hb, p, v, hp, hr, ⟨rfl, rfl, rfl⟩ | ⟨q, cap, rfl, h1, h2, h3, h4, h5, rfl⟩⟩ := h
  · exact ⟨hb, p, _, hp, (hF b (by simp)).trans hr, .inl ⟨rfl, rfl, rfl⟩⟩
  · exact ⟨hb, p, _, hp, (hF b (by simp)).trans hr, .inr ⟨q, cap, rfl, h1, h2, (hF q (by simp)).trans h3, h4, h5, rfl⟩⟩
theorem BV.dom {b : Nat} {F : List Nat} {bs : List Value} (h : BV w0 σ b F bs) : ∀ i, i ∈ F → w0.heap.size ≤ i ∧ σ i ≠ none := by
  obtain ⟨hb, p, v, hp, hr, ⟨rfl, rfl, rfl⟩ | ⟨q, cap, rfl, h1, h2, h3, h4, h5, rfl⟩⟩ := h
  · intro i hi; rw [List.mem_singleton.1 hi]; exact ⟨hb, by rw [hr]; simp⟩
  · intro i hi
    simp at hi
    rcases hi with rfl | rfl
    · exact ⟨hb, by rw [hr]; simp⟩
    · exact ⟨h1, by rw [h3]; simp⟩

theorem write_view {b : Nat} {F : List Nat} {bs : List Value} {s : ByteArray} (h : BV w0 σ b F bs) (hlen : bs.length + s.size ≤ 140737488355328) {R : Value → Vw → Prop}
    (hR : ∀ F' σ', KeepsBut F σ σ' → BV w0 σ' b F' (bs ++ Lib.strCells s) → (∀ i, i ∈ F' → i ∈ F ∨ σ i = none) → R (.tuple ⟨[.int .i64 s.size, .nilIface]⟩) σ') :
    AC Tryd.prog w0 n_p_strings_Builder_WriteString [.pointer (some ⟨b, 0, none⟩), .string s] σ R := by
  refine ⟨is_p_strings_Builder_WriteString, fun w hw => ?_⟩
  obtain ⟨hb, p, v, hp, hr, hv⟩ := h
  have hbk : w.heap[b]? = some (.cells #[p, v] (Tryd.laysB_ren.t 72) (0, 0)) := by
    obtain ⟨_, cur, hc, hpre, hcap, _⟩ := hw.row b _ hr
    simp only at hc hpre hcap
    have hl : cur.toList = [p, v] := by
      obtain ⟨t, ht⟩ := hpre
      have := congrArg List.length ht
      simp only [List.length_append, List.length_cons, List.length_nil, Array.length_toList, hcap] at this
      have ht0 : t = [] := List.eq_nil_of_length_eq_zero (by omega)
      rw [ht0] at ht
      simpa using ht.symm
    have hc2 : cur = #[p, v] := by apply Array.ext'; simpa using hl
    rw [← hc2]; exact hc
  have hown : w.ownsRow w0.heap.size (Tryd.laysB_ren.t 5) 1 v bs.length bs ∧ v.ownBlock ≠ some b ∧ (∀ i, v.ownBlock = some i → i ∈ F) ∧ b ∈ F := by
    rcases hv with ⟨rfl, rfl, rfl⟩ | ⟨q, cap, rfl, h1, h2, h3, h4, h5, rfl⟩
    · exact ⟨⟨rfl, .inl ⟨rfl, rfl⟩⟩, nofun, nofun, by simp⟩
    · obtain ⟨_, cur, hc, hpre, hcap, _⟩ := hw.row q _ h3
      simp only at hc hpre hcap
      refine ⟨⟨by simp, .inr ⟨q, cap, cur, rfl, h1, hc, h4, h5, by omega, ?_⟩⟩, fun e => h2 (by cases e; rfl), fun i e => by cases e; simp, by simp⟩
      have := List.prefix_iff_eq_take.1 hpre
      rw [Nat.mul_one]; exact this.symm
  obtain ⟨hown, hne, hin, hbF⟩ := hown
  refine (Tryd.write_exact w0.heap.size b p v bs s w hp hb hbk hown hne hlen hw.bel.size).mono ?_
  rintro e w' ⟨rfl, v', hbk', hown', hne', hplace, hrest, hbel, hsize⟩
  have hlt : b < w.heap.size := hw.lt hr
  -- the new view
  obtain ⟨hl', hv'⟩ := hown'
  have key : ∀ (σ' : Vw) (F' : List Nat), σ' b = some ⟨Tryd.laysB_ren.t 72, [.pointer (some ⟨b, 0, none⟩), v'], 2, (0, 0)⟩ → BV w0 σ' b F' (bs ++ Lib.strCells s) →
      (∀ i, i ≠ b → v'.ownBlock ≠ some i → σ' i = if v.ownBlock = some i then none else σ i) → (∀ g, v'.ownBlock = some g → ∃ cap cur, σ' g = some ⟨Tryd.laysB_ren.t 5, bs ++ Lib.strCells s, cap, (0, 0)⟩ ∧ w0.heap.size ≤ g ∧ w'.heap[g]? = some (.cells cur (Tryd.laysB_ren.t 5) (0, 0)) ∧ cur.size = cap ∧ (bs ++ Lib.strCells s) <+: cur.toList) →
      (∀ i, i ∈ F' → i = b ∨ v'.ownBlock = some i) → ∃ v σ', (Ending.returned (.tuple #[.int .i64 s.size, .nilIface])) = .returned v ∧ R v σ' ∧ Aft w0 σ w σ' w' := by
    intro σ' F' hσb hBV hσo hσg hF'
    have hgF : ∀ i, v'.ownBlock = some i → i ∈ F ∨ w.heap.size ≤ i := fun i hi => by
      rcases hplace with h | h
      · exact .inl (hin i (by rw [← h]; exact hi))
      · exact .inr (h i hi)
    have hnone : ∀ i, w.heap.size ≤ i → σ i = none := fun i hi => by
      cases hs : σ i with
      | none => rfl
      | some r => exact absurd (hw.lt hs) (by omega)
    refine ⟨_, σ', rfl, hR F' σ' (fun i r hi hiF => ?_) hBV (fun i hi => ?_), ⟨⟨hw.bel.trans hbel, fun i r hi => ?_⟩, hsize, fun i hi hn => ?_, fun i r hi => ?_⟩⟩
    · have h1 : i ≠ b := fun e => hiF (e ▸ hbF)
      have h2 : v'.ownBlock ≠ some i := fun e => by
        rcases hgF i e with h | h
        · exact hiF h
        · rw [hnone i h] at hi; cases hi
      rw [hσo i h1 h2, if_neg (fun e => hiF (hin i e))]; exact hi
    · rcases hF' i hi with rfl | h
      · exact .inl hbF
      · rcases hgF i h with h | h
        · exact .inl h
        · exact .inr (hnone i h)
    · by_cases h1 : i = b
      · subst h1
        rw [hσb] at hi; cases hi
        exact ⟨hb, _, hbk', by simp, by simp, by simp⟩
      · by_cases h2 : v'.ownBlock = some i
        · obtain ⟨cap, cur, q1, q2, q3, q4, q5⟩ := hσg i h2
          rw [q1] at hi; cases hi
          exact ⟨q2, cur, q3, q5, q4, by simp⟩
        · rw [hσo i h1 h2] at hi
          split at hi
          · cases hi
          · rename_i h3
            obtain ⟨g1, cur, g2, g3⟩ := hw.row i r hi
            exact ⟨g1, cur, (hrest i (hw.lt hi) h1 h3).trans g2, g3⟩
    · have h1 : i ≠ b := fun e => by rw [e, hr] at hn; cases hn
      refine hrest i hi h1 fun e => ?_
      rcases hv with ⟨rfl, _⟩ | ⟨q, cap, rfl, _, _, h3, _⟩
      · cases e
      · cases e; rw [h3] at hn; cases hn
    · by_cases h1 : i = b
      · exact .inl (by rw [h1, hr]; simp)
      · by_cases h2 : v'.ownBlock = some i
        · rcases hgF i h2 with h | h
          · refine .inl ?_
            rcases hv with ⟨rfl, _, rfl⟩ | ⟨q, cap, rfl, _, _, h3, _, _, rfl⟩
            · exact absurd (List.mem_singleton.1 h) h1
            · simp at h
              rcases h with h | h
              · exact absurd h h1
              · rw [h, h3]; simp
          · exact .inr h
        · rw [hσo i h1 h2] at hi
          split at hi
          · cases hi
          · exact .inl (by rw [hi]; simp)
  rcases hv' with ⟨rfl, hn⟩ | ⟨g, cap, cur, rfl, q1, q2, q3, q4, q5, q6⟩
  · have hz : bs ++ Lib.strCells s = [] := List.eq_nil_of_length_eq_zero (by omega)
    refine key (fun i => if i = b then some ⟨Tryd.laysB_ren.t 72, [.pointer (some ⟨b, 0, none⟩), .slice none 0 0], 2, (0, 0)⟩ else if v.ownBlock = some i then none else σ i) [b] (by simp) ?_ (fun i h1 _ => by simp [h1]) nofun (fun i hi => .inl (List.mem_singleton.1 hi))
    exact ⟨hb, _, _, .inr rfl, by simp, .inl ⟨rfl, hz, rfl⟩⟩
  · have hgb : g ≠ b := fun e => hne' (by rw [e]; rfl)
    have hpre : (bs ++ Lib.strCells s) <+: cur.toList := by
      rw [Nat.mul_one] at q6
      rw [← q6]; exact List.take_prefix _ _
    refine key (fun i => if i = b then some ⟨Tryd.laysB_ren.t 72, [.pointer (some ⟨b, 0, none⟩), .slice (some ⟨g, 0, none⟩) (bs ++ Lib.strCells s).length cap], 2, (0, 0)⟩ else if g = i then some ⟨Tryd.laysB_ren.t 5, bs ++ Lib.strCells s, cap, (0, 0)⟩ else if v.ownBlock = some i then none else σ i) [b, g] (by simp) ?_ (fun i h1 h2 => ?_) (fun g' hg' => ?_) (fun i hi => ?_)
    · exact ⟨hb, _, _, .inr rfl, by simp, .inr ⟨g, cap, rfl, q1, hgb, by simp [hgb], q3, q4, rfl⟩⟩
    · have : ¬ g = i := fun e => h2 (by rw [e]; rfl)
      simp [h1, this]
    · have : g = g' := by cases hg'; rfl
      subst this
      exact ⟨cap, cur, by simp [hgb], q1, q2, by omega, hpre⟩
    · simp at hi
      rcases hi with h | h
      · exact .inl h
      · exact .inr (by rw [h]; rfl)
end
end Go.Proofs.YtkbhjejalkbogaaDoor

/- strings.Builder: its text is taken. -/
set_option linter.unusedVariables false
set_option linter.unusedSimpArgs false
namespace Go.Proofs
open Go.Shelf Go.RowKit

set_option maxHeartbeats 4000000 in
set_option maxRecDepth 100000 in
theorem Tryd.string_exact (b g cap : Nat) (p : Value) (l : List UInt8) (cur : Array Value) (w : World) (h0 : l ≠ []) (hbk : w.heap[b]? = some (.cells #[p, .slice (some ⟨g, 0, none⟩) l.length cap] (Tryd.lays169_ren.t 72) (0, 0))) (hg : w.heap[g]? = some (.cells cur (Tryd.lays169_ren.t 5) (0, 0)))
    (hnc : l.length ≤ cap) (hcm : cap ≤ maxLen) (hcs : cur.size = cap) (htake : cur.toList.take l.length = Lib.byteCells l) :
    Calls Tryd.prog (Tryd.lays169_ren.f 169) #[.pointer (some ⟨b, 0, none⟩)] w fun e w' => e = .returned (.string ⟨l.toArray⟩) ∧ w' = w.drew.freeze ⟨g, 0, none⟩ l.length := by
  have L := Tryd.lays169
  have X := Tryd.Builder_Extra_169
  have hl0 : l.length ≠ 0 := by simpa using h0
  have c1 : w.drew.cell? ⟨b, 1, none⟩ = some (.slice (some ⟨g, 0, none⟩) l.length cap) := by
    have : w.drew.heap[b]? = some (.cells #[p, .slice (some ⟨g, 0, none⟩) l.length cap] (Tryd.lays169_ren.t 72) (0, 0)) := hbk
    rw [Lib.cell_of_heap this]; rfl
  have hSD : (Builtin.unsafeSliceData_ #[(Tryd.lays169_ren.t 37)] (Tryd.lays169_ren.t 127) #[.slice (some ⟨g, 0, none⟩) l.length cap]).run Tryd.prog w.drew = .ok (.pointer (some ⟨g, 0, none⟩)) w.drew :=
    Lib.run_unsafeSliceData_row _ _ _ _ _ _ (by omega)
  have hown : w.ownsRow 0 (Tryd.lays169_ren.t 5) 1 (.slice (some ⟨g, 0, none⟩) l.length cap) l.length (Lib.byteCells l) := ⟨by simp [Lib.byteCells], .inr ⟨g, cap, cur, rfl, Nat.zero_le _, hg, hnc, hcm, by omega, by rw [Nat.mul_one]; exact htake⟩⟩
  have hUS : (Builtin.unsafeString_ #[(Tryd.lays169_ren.t 127), (Tryd.lays169_ren.t 3)] (Tryd.lays169_ren.t 9) #[.pointer (some ⟨g, 0, none⟩), .int .i64 l.length]).run Tryd.prog w.drew = .ok (.string ⟨l.toArray⟩) (w.drew.freeze ⟨g, 0, none⟩ l.length) := by
    refine Lib.run_unsafeString_row w.drew (Tryd.lays169_ren.t 127) (Tryd.lays169_ren.t 3) (Tryd.lays169_ren.t 9) (Tryd.lays169_ren.t 5) L.t127 X.cellsByte g cur.size (by have hg' : w.drew.heap[g]? = some (.cells cur (Tryd.lays169_ren.t 5) (0, 0)) := hg; simp [World.shape?, hg']) l h0 (by omega) (by unfold maxLen at hcm; omega) ?_
    intro j x hx
    have := hown.cells (g := g) rfl j (.int .u8 x.toNat) (by simp [Lib.byteCells, hx])
    exact this
  have mixed := L.mixed
  have t72 := L.t72; have a72 := L.a72; have z72 := L.z72; have v72 := L.v72; have u72 := run_underlying L.t72
  have t70 := L.t70; have a70 := L.a70; have z70 := L.z70; have v70 := L.v70; have u70 := run_underlying L.t70
  have t37 := L.t37; have a37 := L.a37; have z37 := L.z37; have v37 := L.v37; have u37 := run_underlying L.t37
  have t127 := L.t127; have a127 := L.a127; have z127 := L.z127; have v127 := L.v127; have u127 := run_underlying L.t127
  have t3 := L.t3; have a3 := L.a3; have z3 := L.z3; have v3 := L.v3; have u3 := run_underlying L.t3
  have t9 := L.t9; have a9 := L.a9; have z9 := L.z9; have v9 := L.v9; have u9 := run_underlying L.t9
  have t5 := X.t5; have a5 := X.a5; have z5 := X.z5; have v5 := X.v5; have u5 := run_underlying X.t5
  go_enter L.f169, Body.n169_ntmps Tryd.lays169_ren
  go_wp2
  go_region_o
  all_goals (go_wp2; go_ret; exact ⟨rfl, rfl⟩)
end Go.Proofs
namespace Go.Proofs.YtkbhjejalkbogaaDoor
open Go Go.Av Go.RowKit

section
variable {w0 : World} {σ : Vw}

theorem heap_two {w : World} {b T : Nat} {p v : Value} (hw : Sat w0 σ w) (hr : σ b = some ⟨T, [p, v], 2, (0, 0)⟩) : w.heap[b]? = some (.cells #[p, v] T (0, 0)) := by
  obtain ⟨_, cur, hc, hpre, hcap, _⟩ := hw.row b _ hr
  simp only at hc hpre hcap
  have hl : cur.toList = [p, v] := by
    obtain ⟨t, ht⟩ := hpre
    have := congrArg List.length ht
    simp only [List.length_append, List.length_cons, List.length_nil, Array.length_toList, hcap] at this
    have ht0 : t = [] := List.eq_nil_of_length_eq_zero (by omega)
    rw [ht0] at ht
    simpa using ht.symm
  have hc2 : cur = #[p, v] := by apply Array.ext'; simpa using hl
  rw [← hc2]; exact hc

theorem string_view {b : Nat} {F : List Nat} {l : List UInt8} (h : BV w0 σ b F (Lib.byteCells l)) {R : Value → Vw → Prop} (hR : ∀ σ', KeepsBut F σ σ' → R (.string ⟨l.toArray⟩) σ') :
    AC Tryd.prog w0 n_p_strings_Builder_String [.pointer (some ⟨b, 0, none⟩)] σ R := by
  refine ⟨is_p_strings_Builder_String, fun w hw => ?_⟩
  obtain ⟨hb, p, v, hp, hr, hv⟩ := h
  have hbk := heap_two hw hr
  have full : ∀ {w' : World}, Below w.heap.size w w' → R (.string ⟨l.toArray⟩) σ → ∃ u σ', (Ending.returned (.string ⟨l.toArray⟩)) = .returned u ∧ R u σ' ∧ Aft w0 σ w σ' w' := fun k hRσ => ⟨_, σ, rfl, hRσ, Aft.below hw k⟩
  have hRσ := hR σ (KeepsBut.refl _ _)
  cases l with
  | nil =>
    rcases hv with ⟨rfl, _, rfl⟩ | ⟨q, cap, rfl, h1, h2, h3, h4, h5, rfl⟩
    · refine (Any.Builder_String_nil Tryd.lays169 Tryd.Builder_Extra_169 w.heap.size b p w hbk).mono ?_
      rintro e w' ⟨rfl, k⟩
      exact full k hRσ
    · obtain ⟨_, cur, hc, hpre, hcap, _⟩ := hw.row q _ h3
      simp only at hc hpre hcap
      by_cases hc0 : cap = 0
      · subst hc0
        refine (Any.Builder_String_noroom Tryd.lays169 Tryd.Builder_Extra_169 w.heap.size b q p cur w (Nat.le_refl _) hbk hc).mono ?_
        rintro e w' ⟨rfl, k⟩
        exact full k hRσ
      · refine (Any.Builder_String_room Tryd.lays169 Tryd.Builder_Extra_169 w.heap.size b q cap p w hc0 hbk).mono ?_
        rintro e w' ⟨rfl, k⟩
        exact full k hRσ
  | cons x l =>
    rcases hv with ⟨_, h0, _⟩ | ⟨q, cap, rfl, h1, h2, h3, h4, h5, rfl⟩
    · simp [Lib.byteCells] at h0
    obtain ⟨_, cur, hc, hpre, hcap, _⟩ := hw.row q _ h3
    simp only at hc hpre hcap
    have hlen : (Lib.byteCells (x :: l)).length = (x :: l).length := by simp [Lib.byteCells]
    rw [hlen] at hbk h4
    refine (Tryd.string_exact b q cap p (x :: l) cur w (by simp) hbk hc h4 h5 (by omega) ?_).mono ?_
    · have := List.prefix_iff_eq_take.1 hpre
      rw [hlen] at this; exact this.symm
    rintro e w' ⟨rfl, rfl⟩
    have hk : ∀ k, k ≠ q → (w.drew.freeze ⟨q, 0, none⟩ (x :: l).length).heap[k]? = w.heap[k]? := fun k hk => by
      have hk' : ¬ q = k := fun e => hk e.symm
      have e1 : w.drew.heap = w.heap := rfl
      simp [World.freeze, Array.getElem?_modify, hk', e1]
    have hs : (w.drew.freeze ⟨q, 0, none⟩ (x :: l).length).heap.size = w.heap.size := by
      have e1 : w.drew.heap = w.heap := rfl
      simp [World.freeze, e1]
    have hbl : Below w0.heap.size w (w.drew.freeze ⟨q, 0, none⟩ (x :: l).length) := Lib.below_freeze (Below.drew (Below.refl _ _)) (p := ⟨q, 0, none⟩) h1 _
    refine ⟨_, fun i => if i = q then none else σ i, rfl, hR _ (fun i r hi hF => ?_), ⟨⟨hw.bel.trans hbl, fun i r hi => ?_⟩, by rw [hs]; exact Nat.le_refl _, fun i hi hn => ?_, fun i r hi => ?_⟩⟩
    · have : i ≠ q := fun e => hF (by simp [e])
      simp only [this, if_false]; exact hi
    · by_cases e : i = q
      · simp [e] at hi
      · simp only [e, if_false] at hi
        obtain ⟨g1, cur', g2, g3⟩ := hw.row i r hi
        exact ⟨g1, cur', (hk i e).trans g2, g3⟩
    · exact hk i fun e => by rw [e, h3] at hn; cases hn
    · by_cases e : i = q
      · simp [e] at hi
      · simp only [e, if_false] at hi
        exact .inl (by rw [hi]; simp)
end
end Go.Proofs.YtkbhjejalkbogaaDoor

/- A disk's rows: the law 'DiskOk', of the functions alone. -/
set_option linter.unusedVariables false
set_option linter.unusedSimpArgs false
namespace Go.Proofs.YtkbhjejalkbogaaDoor
open Go Go.Av

section
variable {w0 : World} {σ : Vw}

theorem left_neg {n : Int} {t : Nat} : left n t < 0 ↔ n < t := by unfold left; split <;> omega
end
end Go.Proofs.YtkbhjejalkbogaaDoor

/- Writes of a disk: the law 'DiskWrite', of the functions alone. -/
set_option linter.unusedVariables false
set_option linter.unusedSimpArgs false
namespace Go.Proofs.YtkbhjejalkbogaaDoor
open Go Go.Av

section
variable {w0 : World} {σ : Vw}

end
end Go.Proofs.YtkbhjejalkbogaaDoor

/- The law 'DiskWrite', of the functions alone. -/
set_option linter.unusedVariables false
set_option linter.unusedSimpArgs false
namespace Go.Proofs.YtkbhjejalkbogaaDoor
open Go Go.Av

section
variable {w0 : World} {σ : Vw}

end
end Go.Proofs.YtkbhjejalkbogaaDoor

/- Decimals by either hand; how a text is cut into blocks. -/
set_option linter.unusedVariables false
set_option linter.unusedSimpArgs false
namespace Go.Proofs.YtkbhjejalkbogaaDoor
open Go Go.Av Go.RowKit

theorem nums_dig (n : Nat) : strOfNums [((48 + n % 10 : Nat) : Int)] = ofL [dig n] := by
  have h := bl_byte (48 + n % 10)
  rw [Nat.mod_eq_of_lt (by omega)] at h
  exact bl_inj (by rw [h, bl_ofL]; rfl)
theorem pUn_neg {n : Int} {K : Value → Prop} (h : -9223372036854775807 ≤ n ∧ n ≤ 9223372036854775807) : pUn .neg (.int .i64 n) K ↔ K (.int .i64 (-n)) := by
  have e : aun .neg (.int .i64 n) = some (.int .i64 (-n)) := by
    show some (Value.int .i64 (IntKind.i64.wrap (0 - n))) = _
    rw [IntWalk.i64_in (0 - n) (by omega), Int.zero_sub]
  exact ⟨fun ⟨_, h', hK⟩ => by rw [e] at h'; cases h'; exact hK, fun hK => ⟨_, e, hK⟩⟩
theorem dec_min : decZ (-9223372036854775808) = minText := by
  have : decL 9223372036854775808 = [57, 50, 50, 51, 51, 55, 50, 48, 51, 54, 56, 53, 52, 55, 55, 53, 56, 48, 56] := by
    simp [decL_big, decL_small, dig]
  unfold decZ
  rw [if_pos (by omega)]
  have e : (-(-9223372036854775808 : Int)).toNat = 9223372036854775808 := rfl
  rw [e, decN, this]
  rfl
theorem decN_big {k : Nat} (h : ¬ k < 10) : decN k = decN (k / 10) ++ ofL [dig k] := by
  rw [decN, decL_big h, ← ofL_append]; rfl

section
variable {w0 : World} {σ : Vw}

theorem dec_row {σ' : Vw} {k : Nat} {K : Vw → Value → Prop} (hK : ∀ s, Keeps σ' s → K s (.string (ofL [dig k]))) : pNew w0 5 [.int .u8 ((48 + k % 10 : Nat) : Int)] σ' (fun n s => pStr w0 (.slice (some (Addr.mk n 0 none)) 1 1) s (fun v => K s v)) := by
  intro b h1 h2
  refine pStr1 (by rw [get_row h1 put_at]; rfl) ?_
  rw [nums_dig]
  exact hK _ (Keeps.put h2)

/-- The table that strconv reads stands as it is laid. -/
def Tab (w0 : World) : Prop := ∀ w, Below w0.heap.size w0 w → Lib.TabIs Tryd.prog w "internal/strconv.uint64pow10" .u64 Lib.pow10Tab
theorem itoa_decL : ∀ u : Nat, Lib.decDigits u = decL u := by
  intro u
  induction u using Nat.strongRecOn with
  | _ u ih =>
    rw [Lib.decDigits, decL]
    split
    · rename_i h
      congr 2
      omega
    · rw [ih (u / 10) (by omega)]; rfl
theorem itoa_dec (n : Int) : (⟨(Lib.itoa n).toArray⟩ : ByteArray) = decZ n := by
  show ofL (Lib.itoa n) = _
  unfold Lib.itoa decZ
  split
  · rw [itoa_decL, show (-n).toNat = n.natAbs by omega, decN]
    show ofL ([45] ++ decL n.natAbs) = ofL [45] ++ _
    rw [ofL_append]
  · rw [itoa_decL]; rfl
theorem strconv_Itoa (tab : Tab w0) {n : Int} {R : Value → Vw → Prop} (hn : -9223372036854775808 ≤ n ∧ n ≤ 9223372036854775807) (hR : R (.string (decZ n)) σ) : AC Tryd.prog w0 n_strconv_Itoa [.int .i64 n] σ R := by
  refine AC.of_calls is_strconv_Itoa fun w hw => ?_
  refine (Tryd.strconv_Itoa n hn.1 hn.2 w (tab w hw.bel)).mono ?_
  rintro e w' ⟨rfl, k, os, rfl⟩
  exact ⟨_, rfl, by rw [itoa_dec]; exact hR, Lib.below_grow _ _ (Nat.le_refl _) _ _⟩

/-! ### Blocks -/
end
end Go.Proofs.YtkbhjejalkbogaaDoor

/- Decimals of the tree's own hand; hex. -/
set_option linter.unusedVariables false
set_option linter.unusedSimpArgs false
namespace Go.Proofs.YtkbhjejalkbogaaDoor
open Go Go.Av Go.RowKit

section
variable {w0 : World} {σ : Vw}

theorem spec_l1Dec_nat : ∀ (k : Nat), k ≤ 9223372036854775807 → ∀ {σ : Vw} {R : Value → Vw → Prop}, (∀ σ', Keeps σ σ' → R (.string (decN k)) σ') → AC Tryd.prog w0 n_spec_l1Dec [.int .i64 (k : Nat)] σ R := by
  intro k
  induction k using Nat.strongRecOn with
  | _ k ih =>
    intro hk σ R hR
    refine ac_spec_l1Dec ?_
    unfold vc_spec_l1Dec
    rw [pBin_lt, pIf_d]
    refine ⟨fun h => by omega, fun _ => ?_⟩
    rw [pBin_lt, pIf_d]
    refine ⟨fun h => by omega, fun _ => ?_⟩
    rw [pBin_lt, pIf_d]
    refine ⟨fun h10 => ?_, fun h10 => ?_⟩
    · rw [pBin_add (by omega), pConv_u8 (by omega), pVal1 rfl, show (48 : Int) + (k : Nat) = ((48 + k % 10 : Nat) : Int) by omega]
      refine dec_row fun s k1 => ?_
      have := hR s k1
      rw [decN, decL_small (by omega)] at this
      exact this
    · have hb : ¬ k < 10 := by omega
      have hd := (decN_size (k / 10)).2
      rw [decN_big hb] at hR
      have hcat : ∀ K : Value → Prop, pBin Tryd.prog 9 .add (.string (decN (k / 10))) (.string (ofL [dig k])) K ↔ K (.string (decN (k / 10) ++ ofL [dig k])) := fun K => pBin_cat (by rw [size_ofL]; simp only [List.length_singleton]; omega)
      rw [pBin_quo (by omega), pBin_rem (by omega), pBin_add (by omega), pConv_u8 (by omega), show (48 : Int) + (k : Nat) % 10 = ((48 + k % 10 : Nat) : Int) by omega, show ((k : Nat) : Int) / 10 = ((k / 10 : Nat) : Int) by omega]
      refine ⟨ih (k / 10) (by omega) (by omega) fun s k1 => ?_, ?_⟩
      · rw [pVal1 rfl]
        refine dec_row fun s2 k2 => ?_
        rw [hcat]
        exact hR s2 (k1.trans k2)
      · rw [pVal1 rfl]
        refine dec_row fun s2 k2 => ?_
        refine ih (k / 10) (by omega) (by omega) fun s k1 => ⟨k1.ext, ?_⟩
        rw [hcat]
        exact hR s (k2.trans k1)

theorem spec_l1Dec {n : Int} {R : Value → Vw → Prop} (hn : -9223372036854775808 ≤ n ∧ n ≤ 9223372036854775807) (hR : ∀ σ', Keeps σ σ' → R (.string (decZ n)) σ') : AC Tryd.prog w0 n_spec_l1Dec [.int .i64 n] σ R := by
  by_cases h0 : 0 ≤ n
  · obtain ⟨k, rfl⟩ : ∃ k : Nat, n = k := ⟨n.toNat, by omega⟩
    rw [decZ_nat] at hR
    exact spec_l1Dec_nat k (by omega) hR
  refine ac_spec_l1Dec ?_
  unfold vc_spec_l1Dec
  rw [pBin_lt, pIf_d]
  refine ⟨fun h1 => ?_, fun h1 => ?_⟩
  · have : n = -9223372036854775808 := by omega
    subst this
    have := hR σ (Keeps.refl σ)
    rw [dec_min] at this
    exact this
  rw [pBin_lt, pIf_d]
  refine ⟨fun _ => ?_, fun h => by omega⟩
  rw [pUn_neg (by omega)]
  obtain ⟨k, hk⟩ : ∃ k : Nat, -n = k := ⟨(-n).toNat, by omega⟩
  rw [hk]
  have e : decZ n = ⟨#[45]⟩ ++ decN k := by
    unfold decZ
    rw [if_pos (by omega), hk, Int.toNat_natCast]
  rw [e] at hR
  refine spec_l1Dec_nat k (by omega) fun s k1 => ?_
  have hd := (decN_size k).2
  rw [pBin_cat (by show 1 + _ ≤ _; omega)]
  exact hR s k1


end
end Go.Proofs.YtkbhjejalkbogaaDoor

/- 'PagesWrite': pages as a text, by either hand; the law. -/
set_option linter.unusedVariables false
set_option linter.unusedSimpArgs false
set_option maxRecDepth 20000
namespace Go.Proofs.YtkbhjejalkbogaaDoor
open Go Go.Av Go.RowKit

theorem strCells_cat (a b : ByteArray) : Lib.strCells (a ++ b) = Lib.strCells a ++ Lib.strCells b := by
  have e : ∀ s : ByteArray, Lib.strCells s = (bl s).map fun b => Value.int .u8 b.toNat := fun _ => rfl
  rw [e, e, e, bl_append, List.map_append]
noncomputable def lineP (x : Pgs) (n : Pn) : ByteArray := n.name ++ ⟨#[32]⟩ ++ decZ n.size ++ ⟨#[10]⟩ ++ textOf x n ++ ⟨#[10]⟩
noncomputable def linesP (x : Pgs) (l : List Pn) : ByteArray := l.foldl (fun a n => a ++ lineP x n) ⟨#[]⟩
theorem linesP_take {x : Pgs} {l : List Pn} {j : Nat} {n : Pn} (hj : l[j]? = some n) : linesP x (l.take (j + 1)) = linesP x (l.take j) ++ lineP x n := foldl_take hj
noncomputable def writeP (x : Pgs) : ByteArray := if pagesOk x = true then linesP x x.2 ++ ⟨#[101, 110, 100, 10]⟩ else ⟨#[]⟩
theorem size_dec {x : Pgs} (h : OkS x) {j : Nat} {n : Pn} (hj : x.2[j]? = some n) : decZ ((textOf x n).size : Int) = decZ n.size := by rw [(text_size h hj).1]
theorem decZ_small {a : Int} (h : 0 ≤ a ∧ a ≤ 3000) : (decZ a).size ≤ 400 := by
  have e : a = ((a.toNat : Nat) : Int) := by omega
  rw [e, decZ_nat]
  have := (decN_size a.toNat).2
  omega
theorem name_small {x : Pgs} (h : OkS x) {j : Nat} {n : Pn} (hj : x.2[j]? = some n) : n.name.size ≤ 5 := by
  have := (h.2.2.1 j n hj).1.1
  unfold nameOk at this
  simp only [Bool.and_eq_true, inB, decide_eq_true_eq] at this
  omega
theorem lineP_size {x : Pgs} (h : OkS x) {j : Nat} {n : Pn} (hj : x.2[j]? = some n) : (lineP x n).size ≤ 4000 := by
  have h1 := name_small h hj
  have h2 := decZ_small (h.size hj)
  have h3 := (text_size h hj).1
  have h4 := h.size hj
  have e1 : ∀ b, (⟨#[b]⟩ : ByteArray).size = 1 := fun _ => rfl
  unfold lineP
  simp only [ByteArray.size_append, e1]; omega
theorem linesP_size {x : Pgs} (h : OkS x) : ∀ j, j ≤ x.2.length → (linesP x (x.2.take j)).size ≤ 4000 * j
  | 0, _ => by rw [List.take_zero]; exact Nat.zero_le _
  | j + 1, hj => by
    have hx := List.getElem?_eq_getElem (show j < x.2.length by omega)
    rw [linesP_take hx, ByteArray.size_append]
    have h1 := linesP_size h j (by omega)
    have h2 := lineP_size h hx
    omega

section
variable {w0 : World} {σ : Vw}

theorem spec_PagesWrite {es : List Value} {x : Pgs} (h : RPgs (Av.get w0 σ) es x) {R : Value → Vw → Prop} (hR : ∀ σ', Keeps σ σ' → R (.string (writeP x)) σ') : AC Tryd.prog w0 n_spec_PagesWrite [.agg ⟨es⟩] σ R := by
  refine ac_spec_PagesWrite ?_
  unfold vc_spec_PagesWrite
  rw [RPgs.two h]
  have h0 := h
  obtain ⟨u, v, rfl, hu, hv⟩ := h
  simp only [cellOf_agg, List.getD_cons_zero, List.getD_cons_succ]
  refine spec_PagesOk h0 fun s1 k1 => ?_
  rw [pUn_not, pIf_b]
  refine ⟨fun hno => ?_, fun hok => ?_⟩
  · have := hR s1 k1
    rw [writeP, if_neg (by simpa using hno)] at this; exact this
  have hok : pagesOk x = true := by simpa using hok
  have hS := pagesOk_iff.1 hok
  have h16 := hS.2.1
  have e1 : ∀ b, (⟨#[b]⟩ : ByteArray).size = 1 := fun _ => rfl
  refine loop_rule (m := x.2.length) (fun m l s => ∃ j : Nat, m + j = x.2.length ∧ Keeps s1 s ∧ l = [.string (linesP x (x.2.take j)), .int .i64 (j : Nat), u, v]) ?_ ⟨0, by omega, Keeps.refl _, by rw [List.take_zero]; rfl⟩
  rintro m l s L ⟨j, hm, ks, rfl⟩ hL
  simp only [vget, List.getD_cons_zero, List.getD_cons_succ]
  have hvs := hv.mono (k1.trans ks).le fun es x => rok_pn.mono _ _ _ _ (k1.trans ks).le
  rw [hvs.len, pBin_lt, pIf_d]
  have hlsz := linesP_size hS j (by omega)
  refine ⟨fun hj => ?_, fun hj => ?_⟩
  · have hx := List.getElem?_eq_getElem (show j < x.2.length by omega)
    generalize x.2[j]'(by omega) = n at hx
    have n1 := name_small hS hx
    have n2 := decZ_small (hS.size hx)
    have n3 := (text_size hS hx).1
    have n4 := hS.size hx
    refine spec_l32Text (mono_pgs (k1.trans ks).le h0) hS hx fun s2 k2 => ?_
    have hv2 := hvs.mono k2.le fun es x => rok_pn.mono _ _ _ _ k2.le
    refine fl_atp hv2 hx 0 (by omega) rfl fun q g hg hgood => ?_
    rw [hg, pBin_cat (by omega), pBin_cat (by simp only [ByteArray.size_append, e1]; omega), pLenS_s]
    refine spec_l1Dec (by omega) fun s3 k3 => ?_
    refine ⟨k3.stay, ?_⟩
    rw [size_dec hS hx, pBin_cat (by simp only [ByteArray.size_append, e1]; omega), pBin_cat (by simp only [ByteArray.size_append, e1]; omega), pBin_cat (by simp only [ByteArray.size_append, e1]; omega), pBin_cat (by simp only [ByteArray.size_append, e1]; omega), pBin_add (by omega)]
    refine hL _ _ (m - 1) (by omega) ⟨j + 1, by omega, (ks.trans k2).trans k3, ?_⟩
    rw [linesP_take hx]
    simp [lineP, ByteArray.append_assoc]
  · have e : j = x.2.length := by omega
    subst e
    rw [List.take_length] at hlsz ⊢
    have e4 : (⟨#[101, 110, 100, 10]⟩ : ByteArray).size = 4 := rfl
    show pBin Tryd.prog t_string .add (.string (linesP x x.2)) (.string ⟨#[101, 110, 100, 10]⟩) _
    rw [pBin_cat (by rw [e4]; omega)]
    have := hR s (k1.trans ks)
    rw [writeP, if_pos hok] at this; exact this

theorem impl_PagesWrite (tab : Tab w0) {es : List Value} {x : Pgs} (h : RPgs (Av.get w0 σ) es x) {R : Value → Vw → Prop} (hR : ∀ σ', Keeps σ σ' → R (.string (writeP x)) σ') : AC Tryd.prog w0 n_impl_PagesWrite [.agg ⟨es⟩] σ R := by
  refine ac_impl_PagesWrite ?_
  unfold vc_impl_PagesWrite
  rw [RPgs.two h]
  have h0 := h
  obtain ⟨u, v, rfl, hu, hv⟩ := h
  simp only [cellOf_agg, List.getD_cons_zero, List.getD_cons_succ]
  refine impl_PagesOk h0 fun s1 k1 => ?_
  rw [pUn_not, pIf_b]
  refine ⟨fun hno => ?_, fun hok => ?_⟩
  · have := hR s1 k1
    rw [writeP, if_neg (by simpa using hno)] at this; exact this
  have hok : pagesOk x = true := by simpa using hok
  have hS := pagesOk_iff.1 hok
  have h16 := hS.2.1
  have e1 : ∀ b, (⟨#[b]⟩ : ByteArray).size = 1 := fun _ => rfl
  rw [pVal_2 rfl rfl]
  intro b hb1 hb2
  have kb : Keeps s1 (s1.put b ⟨Tryd.laysB_ren.t 72, [.pointer none, .slice none 0 0], 2, (0, 0)⟩) := Keeps.put hb2
  have hB0 : BV w0 (s1.put b ⟨Tryd.laysB_ren.t 72, [.pointer none, .slice none 0 0], 2, (0, 0)⟩) b [b] [] := BV.new (w0 := w0) (σ := s1) hb1
  rw [hv.len]
  refine loop_rule (m := x.2.length) (fun m l st => ∃ (j : Nat) (F : List Nat), m + j = x.2.length ∧ Keeps s1 st ∧ (∀ i, i ∈ F → s1 i = none) ∧ BV w0 st b F (Lib.strCells (linesP x (x.2.take j))) ∧
    l = [.pointer (some ⟨b, 0, none⟩), v, .int .i64 (x.2.length : Nat), .int .i64 (j : Nat), u, v]) ?_ ⟨0, [b], by omega, kb, fun i hi => by rw [List.mem_singleton.1 hi]; exact hb2, hB0, rfl⟩
  rintro m l st L ⟨j, F, hm, ks, hF, hB, rfl⟩ hL
  simp only [vget, List.getD_cons_zero, List.getD_cons_succ]
  have hlsz := linesP_size hS j (by omega)
  have hvs := hv.mono (k1.trans ks).le fun es x => rok_pn.mono _ _ _ _ (k1.trans ks).le
  rw [pBin_lt, pIf_d]
  refine ⟨fun hj => ?_, fun hj => ?_⟩
  · have hx := List.getElem?_eq_getElem (show j < x.2.length by omega)
    generalize x.2[j]'(by omega) = n at hx
    have n1 := name_small hS hx
    have n2 := decZ_small (hS.size hx)
    have n3 := (text_size hS hx).1
    have n4 := hS.size hx
    have n5 := lineP_size hS hx
    refine pn_at hvs hx fun g g0 g1 g2 hgood => ?_
    rw [g0, g1, g2, pVal_3 rfl rfl rfl]
    refine impl_get (mono_pgs (k1.trans ks).le h0) hS fun s2 k2 => ?_
    have eg : getP x n.name = (textOf x n, true) := by
      unfold getP
      rw [if_pos hok, idx_of_name hS hx]
      show (match x.2[j]? with | some n => (textOf x n, true) | none => (⟨#[]⟩, false)) = _
      rw [hx]
    rw [pExtract_s rfl, pExtract_s rfl, eg, pBin_cat (by rw [e1]; omega)]
    refine strconv_Itoa tab (by omega) ?_
    rw [pBin_cat (by simp only [ByteArray.size_append, e1]; omega), pBin_cat (by simp only [ByteArray.size_append, e1]; omega), pBin_cat (by simp only [ByteArray.size_append, e1]; omega), pBin_cat (by simp only [ByteArray.size_append, e1]; omega)]
    have hB1 := hB.frame (k2.but_at fun i hi => (hB.dom i hi).2)
    show AC Tryd.prog w0 n_p_strings_Builder_WriteString [.pointer (some ⟨b, 0, none⟩), .string (lineP x n)] s2 _
    refine write_view hB1 (by rw [Lib.strCells_length]; omega) fun F' s3 k3 hB2 hF2 => ?_
    rw [pBin_add (by omega)]
    refine hL _ _ (m - 1) (by omega) ⟨j + 1, F', by omega, k3.old (ks.trans k2) hF, fun i hi => ?_, ?_, by simp⟩
    · rcases hF2 i hi with h | h
      · exact hF i h
      · cases hs : s1 i with
        | none => rfl
        | some r => have := (ks.trans k2) i r hs; rw [h] at this; cases this
    · rw [linesP_take hx, strCells_cat]; exact hB2
  · have e : j = x.2.length := by omega
    subst e
    rw [List.take_length] at hlsz hB
    have e2 : Lib.strCells (linesP x x.2) = Lib.byteCells (bl (linesP x x.2)) := rfl
    rw [e2] at hB
    show AC Tryd.prog w0 n_p_strings_Builder_String [.pointer (some ⟨b, 0, none⟩)] st _
    refine string_view hB fun s2 k2 => ?_
    have e3 : (⟨(bl (linesP x x.2)).toArray⟩ : ByteArray) = linesP x x.2 := ofL_bl _
    have e4 : (⟨#[101, 110, 100, 10]⟩ : ByteArray).size = 4 := rfl
    rw [e3, pBin_cat (by rw [e4]; omega)]
    have := hR s2 (k1.trans (k2.old ks hF))
    rw [writeP, if_pos hok] at this; exact this

theorem law_PagesWrite (tab : Tab w0) {es : List Value} {x : Pgs} (h : RPgs (Av.get w0 σ) es x) {R : Value → Vw → Prop} (hR : ∀ σ', R (.bool true) σ') : AC Tryd.prog w0 n_laws_FnExactPagesWrite [.agg ⟨es⟩] σ R := by
  refine ac_laws_FnExactPagesWrite ?_
  unfold vc_laws_FnExactPagesWrite
  rw [RPgs.two h]
  have h0 := h
  obtain ⟨u, v, rfl, hu, hv⟩ := h
  simp only [cellOf_agg, List.getD_cons_zero, List.getD_cons_succ]
  refine szPages h0 (by omega) ?_
  rw [pBin_lt, pIf_d]
  refine ⟨fun _ => hR _, fun hb => ?_⟩
  rw [Av.left_neg] at hb
  have hsz : szPgs x ≤ 1048576 := by omega
  have hl1 : x.1.length ≤ 1000000000000 := by unfold szPgs at hsz; omega
  have hl2 : x.2.length ≤ 1000000000000 := by unfold szPgs at hsz; omega
  refine toPages h0 hl1 hl2 fun es1 F1 s1 k1 o1 f1 => ?_
  refine spec_PagesWrite ((ok_pgs w0).rel _ _ _ _ o1) fun s2 k2 => ?_
  have k12 := k1.trans k2
  refine toPages (mono_pgs k12.le h0) hl1 hl2 fun es2 F2 s3 k3 o2 f2 => ?_
  have r2 := (ok_pgs w0).rel _ _ _ _ o2
  rw [RPgs.two r2]
  obtain ⟨a, b, rfl⟩ := RPgs.pair r2
  simp only [cellOf_agg, List.getD_cons_zero, List.getD_cons_succ]
  refine impl_PagesWrite tab r2 fun s4 k4 => ?_
  rw [pBin_sne, pIf_d]
  refine ⟨fun h => absurd rfl h, fun _ => ?_⟩
  have k34 := (k12.trans k3).trans k4
  refine toPages (mono_pgs k34.le h0) hl1 hl2 fun es3 F3 s5 k5 o3 f3 => ?_
  refine eqPages (mono_pgs (k4.trans k5).le r2) ((ok_pgs w0).rel _ _ _ _ o3) ?_
  rw [pUn_not, pIf_b]
  exact ⟨fun h => by simp at h, fun _ => hR _⟩
end
end Go.Proofs.YtkbhjejalkbogaaDoor

/- The law FnExactPagesWrite holds: it returns true, and the input reads as it did. No condition. -/
namespace Go.Proofs.YtkbhjejalkbogaaDoor.fnExactPagesWrite
open Go.ChangeShapes Go.WideShapes Go.ChangeAt Go.RowKit Go.Av
set_option linter.unusedVariables false
set_option linter.unusedSimpArgs false
theorem own : ownKnob Tryd.prog.godebug = none := by kernel_rfl
theorem laidOut : laidOutB Tryd.prog = true := by kernel_rfl
abbrev laidL : List (String × DataW Unit) := [("math/bits.deBruijn32tab", Rows.laid_math_bits_deBruijn32tab), ("math/bits.deBruijn64tab", Rows.laid_math_bits_deBruijn64tab), ("internal/strconv.uint64pow10", Rows.laid_internal_strconv_uint64pow10)]
theorem door_met (os : Os) (args : Array Value) : laidMetH Tryd.prog laidL ((World.doorLaid Tryd.prog 400 os).forCall (fun _ _ => 0) ⟨#[], args, []⟩).memory :=
  laidMetH_of_parts3 (fuel := 8) (laidMet_of_run' 8 (by kernel_rfl) (by kernel_rfl)) (by kernel_rfl) (by kernel_rfl)
theorem gPow : Tryd.prog.globalNamed "internal/strconv.uint64pow10" = some 0 := by kernel_rfl
theorem tab_of {W : World} (h : laidMetH Tryd.prog laidL W) : Tab W := by
  rw [MakeChecks.laidMetH_plain _ _ _ (by kernel_rfl)] at h
  have h3 := laidMet.tail (laidMet.tail h)
  have e : (Rows.laid_internal_strconv_uint64pow10 : DataW Unit) = Lib.tabData .u64 Lib.pow10Tab := by kernel_rfl
  rw [e] at h3
  have ht : Lib.TabIs Tryd.prog W "internal/strconv.uint64pow10" .u64 Lib.pow10Tab := Lib.tabIs_of_head (n := 20) (t := 93) (e := 86) gPow (by kernel_rfl) (by kernel_rfl) (by kernel_rfl) (by kernel_rfl) (by kernel_rfl) h3
  intro w hw
  refine var?_below hw gPow ?_ ht
  rcases Nat.lt_or_ge 0 W.heap.size with h' | h'
  · exact h'
  · simp [Lib.TabIs, World.var?, gPow, Array.getElem?_eq_none h'] at ht
set_option maxRecDepth 100000 in
theorem lifted (os : Os) (started : os.Started) (H : Type) (enc : TypeId × Value → H) :
    ReturnsInHanded {} Tryd.checked os 3 .any (fun w args => (Rows.fnExactPagesWriteSpec.pre enc Tryd.prog Tryd.f3 [] false w args ∧ laidMetH Tryd.prog laidL w) ∧ sizedMet enc Tryd.prog Tryd.f3 (OpenSpec.ofChange Rows.fnExactPagesWriteSpec) false w args)
      (Rows.fnExactPagesWriteSpec.post enc Tryd.prog Tryd.f3 false true false false) := by
  refine returnsInHanded_of_change_and (C := Tryd.checked) (X := fun w _ => laidMetH Tryd.prog laidL w) (fun _ _ _ hh h => h.of_heap hh) own started (by kernel_rfl) Tryd.func3
    (ChangeSpec.witness_shaped (enc := enc) (C := Tryd.checked) (os := os) (X := fun w _ => laidMetH Tryd.prog laidL w) false (World.doorLaid Tryd.prog 400 os) #[.agg #[.slice none 0 0, .slice none 0 0]] 8 rfl (World.shaped_of_RefB (by kernel_rfl) (by kernel_rfl)) (by kernel_rfl) (by kernel_rfl) (by kernel_rfl) (door_met os _)) ?_
  intro W base args ds gs before hval0 hW _ _ hL _
  have hval : ∀ (j : Nat) t v, Tryd.f3.params[j]? = some t → args[j]? = some v → Value.okWide Tryd.prog W .any base t v := hval0
  have hW' := hW
  obtain ⟨p, q, hA0, hV, rfl, hfz, hnd⟩ := hW
  have hA : DataW.TrodAll enc Tryd.prog W 0 (fun _ => true) true Tryd.f3.params.toList args.toList ds p := hA0
  rw [Tryd.params3] at hA hval
  obtain ⟨v0, d0, rfl, rfl, h0⟩ := trodAll_one hA
  obtain ⟨rfl, rfl⟩ := trodVars_none hV
  have hT0 : Tryd.prog.underlying 25 = some (.struct (fsOf Tryd.prog 25)) := by kernel_rfl
  obtain ⟨c0, rfl, hc0⟩ := okWide_struct hT0 (hval 0 25 v0 rfl rfl)
  have h0k := h0
  obtain ⟨fuel0, hf0⟩ := h0
  clear hA0 hval0
  simp only [List.append_nil] at hW'
  have hlt : ∀ x ∈ p, x.block < W.heap.size := fun x hx => by simpa using hW'.lt x hx
  have hargs0 : ∀ (W' : World), Below W.heap.size W W' → DataW.Trod enc Tryd.prog W' 0 (fun b => decide (b < W.heap.size)) true 25 (.agg c0) d0 p :=
    fun W' hn => Below.trod laidOut (by kernel_rfl) (of_decide_eq_true (by kernel_rfl)) h0k hn hlt
  have hl0 : c0.toList.length = 2 := by rw [Array.length_toList, hc0]; kernel_rfl
  obtain ⟨x0, r0⟩ := open_pages fuel0 c0.toList _ hf0 hl0
  refine ((law_PagesWrite (tab_of hL) (R := fun v _ => v = .bool true) r0 (by intros; rfl)).calls).mono fun e W' ⟨v, σ', he, hv, bel⟩ => ?_
  subst he hv
  exact ⟨_, rfl, _, _, _, [], _, [], hW', trodAll_mk1 (shut_bool Tryd.underlying4 _), trodAll_mk1 (hargs0 W' bel), rfl, bel.frame _, fun h => by cases h⟩
theorem over : Rows.fnExactPagesWriteRow.holds Tryd.pinned (OpenSpec.ofChange Rows.fnExactPagesWriteSpec) :=
  OpenClaim.holds_of_wide 3 Tryd.f3 rfl rfl rfl rfl rfl rfl rfl ⟨rfl, rfl, rfl, rfl, rfl⟩ rfl rfl rfl rfl rfl (by kernel_rfl) Tryd.func3 (by kernel_rfl)
    (of_decide_eq_true (by kernel_rfl)) (by unfold Func.isWrapper; first | (rw [if_pos (by decide +kernel)]; kernel_rfl) | (rw [if_neg (by decide +kernel)]; exact ⟨rfl, rfl⟩))
    (fun os started H enc _ => lifted os started H enc)
/-- THE TIED CARD. -/
theorem proved : Rows.FnExactPagesWriteCardSaid :=
  Claim7.holds_tied_plain_at .later [] [.data, .data, .data] true (true, "765118775374b5d86f246ed521a988cccfc60329b66d889b5f4e5d9095bb6781") false
    over (fun _ h => by cases h) (by kernel_rfl) (fun _ h => by cases h) fnExactPagesWrite_row_tie rfl ⟨rfl, rfl⟩ (by kernel_rfl) rfl
    (fun f fn hf hfn => by
      obtain rfl : f = 3 := Option.some.inj ((show Tryd.prog.funcNamed "loop.example/changetrail/laws.FnExactPagesWrite" = some 3 by kernel_rfl).symm.trans hf) |>.symm
      obtain rfl : fn = Tryd.f3 := (Option.some.inj (Tryd.func3.symm.trans hfn)).symm
      exact ⟨by kernel_rfl, fun j t ht => by
        rw [Tryd.params3] at ht
        have hm : t ∈ [25] := by simpa using Array.mem_of_getElem? ht
        have hall : ([25].all fun u => !Tryd.prog.wantsStandIn u) = true := by kernel_rfl
        exact (show Tryd.prog.wantsStandIn t = false by simpa using List.all_eq_true.1 hall t hm)⟩)
    (by kernel_rfl)
end Go.Proofs.YtkbhjejalkbogaaDoor.fnExactPagesWrite
namespace Go.Proofs.YtkbhjejalkbogaaDoor
/-- The row, under a short name, for the claim. -/
theorem fnExactPagesWrite_holds : Rows.FnExactPagesWriteCardSaid := fnExactPagesWrite.proved
end Go.Proofs.YtkbhjejalkbogaaDoor
