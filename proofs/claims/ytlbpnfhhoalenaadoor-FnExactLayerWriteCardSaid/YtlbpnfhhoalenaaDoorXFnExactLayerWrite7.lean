/- The law FnExactLayerWrite holds: it returns true, and the input reads as it did. No condition. This is part 7 of 7 of its proof. -/
import Derived.Test.YtlbpnfhhoalenaaDoorXFnExactLayerWrite6
import Derived.Shelf.Strings.BuilderX
import Derived.BigCall
import Derived.BigGuard
import Derived.Lib.AppendStr
import Derived.Shelf.Strings.Builder1
import Derived.Shelf.Strings.Builder2
import Derived.Test.YtlbpnfhhoalenaaDoorRows
import Derived.WalkKit
import Derived.ProofKit
import Derived.OpenShut
import Derived.ShutString
import Derived.ChangeOld
import Derived.Below
import Derived.Carry
import Derived.SizedLaws
import Derived.LaidMore
import Derived.Stop.Joined
import Derived.Stop.LaidErr
import Derived.Lib.LaidTab
import Derived.WalkSmall
import Derived.MakeChecks
import Derived.SevenTiedAt
import Derived.Test.YtlbpnfhhoalenaaDoorCards
import Derived.Test.YtlbpnfhhoalenaaDoorTie

/- What is at a path of a tree, by either reading. -/
set_option linter.unusedVariables false
set_option linter.unusedSimpArgs false
namespace Go.Proofs.YtlbpnfhhoalenaaDoor
open Go Go.Av

/-- The first place of a text. -/
def nidx : List ByteArray → ByteArray → Option Nat
  | [], _ => none
  | s :: r, x => if s = x then some 0 else (nidx r x).map (· + 1)
theorem nidx_some {ns : List ByteArray} {x : ByteArray} : ∀ {j : Nat}, nidx ns x = some j → ns[j]? = some x := by
  induction ns with
  | nil => intro j h; simp [nidx] at h
  | cons s r ih =>
    intro j h
    unfold nidx at h
    split at h
    · rename_i e; cases h; simp [e]
    · cases hr : nidx r x with
      | none => rw [hr] at h; cases h
      | some i => rw [hr] at h; cases h; simpa using ih hr
theorem nidx_at {ns : List ByteArray} {x : ByteArray} : ∀ {j : Nat}, ns[j]? = some x → (∀ (i : Nat) (y : ByteArray), i < j → ns[i]? = some y → y ≠ x) → nidx ns x = some j := by
  induction ns with
  | nil => intro j h; simp at h
  | cons s r ih =>
    intro j h hn
    unfold nidx
    cases j with
    | zero => simp at h; rw [if_pos h]
    | succ j =>
      rw [if_neg (hn 0 s (by omega) rfl), ih (by simpa using h) fun i y hi hy => hn (i + 1) y (by omega) (by simpa using hy)]
      rfl
theorem nidx_none {ns : List ByteArray} {x : ByteArray} (h : ∀ (i : Nat) (y : ByteArray), ns[i]? = some y → y ≠ x) : nidx ns x = none := by
  induction ns with
  | nil => rfl
  | cons s r ih =>
    unfold nidx
    rw [if_neg (h 0 s rfl), ih fun i y hy => h (i + 1) y (by simpa using hy)]
    rfl
/-- A place as a number, -1 for none. -/
def placeI : Option Nat → Int
  | some j => j
  | none => -1

/-- Names and parts are as many, all the way down. -/
def wfT : Nat → Tr → Prop
  | 0, _ => True
  | n + 1, .mk d m t ns ks => ns.length = ks.length ∧ ∀ k, k ∈ ks → wfT n k
theorem sound_wf : ∀ (n : Nat) (x : Tr) (k : Int), soundB n x k = true → wfT n x
  | 0, _, _, _ => trivial
  | n + 1, .mk d m t ns ks, k, h => by
    simp only [soundB, plainB, Bool.and_eq_true, decide_eq_true_eq] at h
    refine ⟨h.1.2.1, fun x hx => ?_⟩
    obtain ⟨j, hj⟩ := List.getElem?_of_mem hx
    exact sound_wf n x (k + 1) (allB_iff.1 h.2.2 j x hj)
def kidT : Tr → ByteArray → Option Tr
  | .mk _ _ _ ns ks, x => (nidx ns x).bind fun j => ks[j]?
def atT : Tr → List ByteArray → Option Tr
  | t, [] => some t
  | t, x :: r => (kidT t x).bind fun k => atT k r
def zeroT : Tr := .mk false 0 ⟨#[]⟩ [] []
theorem RT_zero (n : Nat) (rd : Addr → Option Value) : RT (n + 1) rd [.bool false, .int .i64 0, .string ⟨#[]⟩, .slice none 0 0, .slice none 0 0] zeroT :=
  ⟨_, _, rfl, by omega, by show 0 ≤ _; omega, ⟨none, 0, rfl, by simp, fun j x h => by simp at h⟩, ⟨none, 0, rfl, by simp, fun j x h => by simp at h⟩⟩
theorem wf_up : ∀ {n : Nat} {x : Tr}, wfT (n + 1) x → wfT n x
  | 0, _, _ => trivial
  | n + 1, .mk d m t ns ks, h => ⟨h.1, fun k hk => wf_up (h.2 k hk)⟩

section
variable {w0 : World} {σ : Vw}

/-- What a kid is read as. -/
theorem kid_some {n : Nat} {d : Bool} {m : Int} {t : ByteArray} {ns : List ByteArray} {ks : List Tr} {x : ByteArray} (hw : wfT (n + 1) (.mk d m t ns ks)) {j : Nat} (hj : nidx ns x = some j) : ∃ k, ks[j]? = some k ∧ kidT (.mk d m t ns ks) x = some k ∧ wfT n k := by
  have h1 := nidx_some hj
  have hlt := (List.getElem?_eq_some_iff.1 h1).1
  have hw1 := hw.1
  have hk := List.getElem?_eq_getElem (show j < ks.length by omega)
  refine ⟨_, hk, ?_, hw.2 _ (List.getElem_mem _)⟩
  simp only [kidT, hj, Option.bind_some, hk]

/-- A pointer to a tree. -/
def PT (n : Nat) (rd : Addr → Option Value) (p : Value) (x : Tr) : Prop := ∃ a es, p = .pointer (some a) ∧ es.length = 5 ∧ (∀ i, i < 5 → rd (a.add i) = es[i]?) ∧ RT n rd es x
theorem PT.mono {n : Nat} {rd rd' : Addr → Option Value} {p : Value} {x : Tr} (h : PT n rd p x) (hl : Le rd rd') : PT n rd' p x := by
  obtain ⟨a, es, h1, h2, h3, h4⟩ := h
  refine ⟨a, es, h1, h2, fun i hi => ?_, mono_rt n _ _ _ _ hl h4⟩
  have := h3 i hi
  rw [List.getElem?_eq_getElem (by omega)] at this ⊢
  exact hl _ _ this
theorem PT.up {n : Nat} {rd : Addr → Option Value} {p : Value} {x : Tr} (h : PT n rd p x) : PT (n + 1) rd p x := by
  obtain ⟨a, es, h1, h2, h3, h4⟩ := h
  exact ⟨a, es, h1, h2, h3, RT_up _ _ _ _ h4⟩
/-- A field behind a pointer is read. -/
theorem PT.ld {n : Nat} {p : Value} {x : Tr} (h : PT n (Av.get w0 σ) p x) (o : Nat) (ho : o < 5) {K : (Nat → Value) → Prop} (hK : ∀ (es : List Value) (g : Nat → Value), RT n (Av.get w0 σ) es x → es[o]? = some (g 0) → K g) : pNil p (pField o p fun q => pLoad w0 1 q σ K) := by
  obtain ⟨a, es, rfl, h5, h6, h7⟩ := h
  rw [pNil_s, pField_s]
  refine ⟨_, fun _ => es.getD o undef, rfl, fun i hi => ?_, hK es _ h7 ?_⟩
  · have e : i = 0 := by omega
    subst e
    have := h6 o ho
    rw [add_add, Nat.add_zero, this, List.getElem?_eq_getElem (by omega)]
    simp only [List.getD_eq_getElem?_getD, List.getElem?_eq_getElem (show o < es.length by omega), Option.getD_some]
  · simp only [List.getD_eq_getElem?_getD, List.getElem?_eq_getElem (show o < es.length by omega), Option.getD_some]
/-- The address of an element. -/
theorem RSl.ptr {n k : Nat} {v : Value} {xs : List Tr} (h : RSl 5 (RT n) (Av.get w0 σ) v xs) {j : Nat} {x : Tr} (hj : xs[j]? = some x) {K : Value → Prop} (hK : ∀ p, PT n (Av.get w0 σ) p x → K p) : pIndexAddr 5 v (.int .i64 j) K := by
  obtain ⟨A, cap, rfl, _, h3⟩ := h
  obtain ⟨a, es, rfl, h5, h6, h7⟩ := h3 j x hj
  have hlt : j < xs.length := (List.getElem?_eq_some_iff.1 hj).1
  refine ⟨a, xs.length, cap, .i64, j, rfl, rfl, by omega, by omega, hK _ ⟨_, es, rfl, h5, fun i hi => ?_, h7⟩⟩
  have := h6 i hi
  rw [Int.toNat_natCast, add_add]; exact this

/-- What is at a name, by pointers: a pointer, or nil. -/
def PO (n : Nat) (rd : Addr → Option Value) (p : Value) : Option Tr → Prop
  | some x => PT n rd p x
  | none => p = .pointer none
theorem PO.mono {n : Nat} {rd rd' : Addr → Option Value} {p : Value} {o : Option Tr} (h : PO n rd p o) (hl : Le rd rd') : PO n rd' p o := by
  cases o with
  | none => exact h
  | some x => exact PT.mono h hl

theorem wf_RT_up : ∀ {n : Nat} {rd : Addr → Option Value} {es : List Value} {x : Tr}, RT n rd es x → wfT n x → wfT (n + 1) x
  | 0, _, _, _, h, _ => h.elim
  | n + 1, rd, es, .mk d m t ns ks, h, hw => by
    obtain ⟨u, w, h1, h2, h3, h4, A, cap, _, _, h5⟩ := h
    refine ⟨hw.1, fun k hk => ?_⟩
    obtain ⟨j, hj⟩ := List.getElem?_of_mem hk
    obtain ⟨a, es', _, _, _, h6⟩ := h5 j k hj
    exact wf_RT_up h6 (hw.2 k hk)

theorem pBin_nil {T : Nat} {p : Option Addr} {K : Value → Prop} (hT : ∃ e, Tryd.prog.underlying T = some (.pointer e)) : pBin Tryd.prog T .eql (.pointer p) (.pointer none) K ↔ K (.bool p.isNone) := by
  obtain ⟨e, he⟩ := hT
  have h : abinT Tryd.prog T .eql (.pointer p) (.pointer none) = some (.bool p.isNone) := by simp only [abinT, he]
  exact ⟨fun ⟨_, h', hK⟩ => by rw [h] at h'; cases h'; exact hK, fun hK => ⟨_, h, hK⟩⟩
end
end Go.Proofs.YtlbpnfhhoalenaaDoor

/- Reading and listing: the functions 'TreeRead' and 'TreeList' by either text. -/
set_option linter.unusedVariables false
set_option linter.unusedSimpArgs false
namespace Go.Proofs.YtlbpnfhhoalenaaDoor
open Go Go.Av

def kidsOf : Tr → List Tr
  | .mk _ _ _ _ ks => ks
def namesOf : Tr → List ByteArray
  | .mk _ _ _ ns _ => ns
def dataOf : Tr → ByteArray
  | .mk _ _ t _ _ => t
def modeOf : Tr → Int
  | .mk _ m _ _ _ => m
/-- What holds of a part and of all below. -/
def AllT (P : Tr → Prop) : Nat → Tr → Prop
  | 0, _ => True
  | n + 1, x => P x ∧ ∀ k, k ∈ kidsOf x → AllT P n k
theorem all_up {P : Tr → Prop} : ∀ {n : Nat} {rd : Addr → Option Value} {es : List Value} {x : Tr}, RT n rd es x → AllT P n x → AllT P (n + 1) x
  | 0, _, _, _, h, _ => h.elim
  | n + 1, rd, es, .mk d m t ns ks, h, hw => by
    obtain ⟨u, w, h1, h2, h3, h4, A, cap, _, _, h5⟩ := h
    refine ⟨hw.1, fun k hk => ?_⟩
    obtain ⟨j, hj⟩ := List.getElem?_of_mem hk
    obtain ⟨a, es', _, _, _, h6⟩ := h5 j k hj
    exact all_up h6 (hw.2 k hk)
/-- What can be read. -/
def IsT (n : Nat) (x : Tr) : Prop := ∃ rd es, RT n rd es x
theorem kid_mem {x : Tr} {nm : ByteArray} {k : Tr} (h : kidT x nm = some k) : k ∈ kidsOf x := by
  obtain ⟨d, m, t, ns, ks⟩ := x
  simp only [kidT, Option.bind_eq_some_iff] at h
  obtain ⟨j, _, hj⟩ := h
  exact List.mem_of_getElem? hj
theorem isT_kid {n : Nat} {x k : Tr} (h : IsT (n + 1) x) (hk : k ∈ kidsOf x) : IsT n k := by
  obtain ⟨d, m, t, ns, ks⟩ := x
  obtain ⟨rd, es, u, w, h1, h2, h3, h4, A, cap, _, _, h5⟩ := h
  obtain ⟨j, hj⟩ := List.getElem?_of_mem hk
  obtain ⟨a, es', _, _, _, h6⟩ := h5 j k hj
  exact ⟨rd, es', h6⟩
theorem at_all {P : Tr → Prop} : ∀ (ps : List ByteArray) {n : Nat} {x y : Tr}, IsT n x → AllT P n x → atT x ps = some y → IsT n y ∧ AllT P n y
  | [], n, x, y, h, ha, he => by cases he; exact ⟨h, ha⟩
  | p :: r, 0, x, y, ⟨_, _, h⟩, ha, he => h.elim
  | p :: r, n + 1, x, y, h, ha, he => by
    simp only [atT, Option.bind_eq_some_iff] at he
    obtain ⟨k, hk, he⟩ := he
    have hm := kid_mem hk
    obtain ⟨⟨rd, es, h1⟩, h2⟩ := at_all r (isT_kid h hm) (ha.2 k hm) he
    exact ⟨⟨rd, es, RT_up _ _ _ _ h1⟩, all_up h1 h2⟩
theorem all_imp {P Q : Tr → Prop} (hPQ : ∀ x, P x → Q x) : ∀ {n : Nat} {x : Tr}, AllT P n x → AllT Q n x
  | 0, _, _ => trivial
  | n + 1, x, h => ⟨hPQ _ h.1, fun k hk => all_imp hPQ (h.2 k hk)⟩
theorem fit_all : ∀ {n : Nat} {x : Tr}, fitT n x → AllT (fun x => (namesOf x).length ≤ 1000000000000 ∧ (kidsOf x).length ≤ 1000000000000) n x
  | 0, _, _ => trivial
  | n + 1, .mk d m t ns ks, h => ⟨⟨h.1, h.2.1⟩, fun k hk => fit_all (h.2.2 k hk)⟩

noncomputable def readT (n : Nat) (x : Tr) (ps : List ByteArray) (a c : Int) : ByteArray × Int :=
  if treeOk n x = true then
    if a < 0 ∨ c < 0 then (⟨#[]⟩, 2)
    else match atT x ps with
      | none => (⟨#[]⟩, 3)
      | some y => if isDir y = true then (⟨#[]⟩, 4) else ((dataOf y).extract (min a (dataOf y).size).toNat (min (a + c) (dataOf y).size).toNat, 0)
  else (⟨#[]⟩, 1)
noncomputable def listT (n : Nat) (x : Tr) (ps : List ByteArray) : List ByteArray × Int :=
  if treeOk n x = true then match atT x ps with
    | none => ([], 3)
    | some y => if isDir y = true then (namesOf y, 0) else ([], 4)
  else ([], 1)

theorem extract_none {t : ByteArray} {i j : Nat} (h : min j t.size ≤ i) : t.extract i j = ⟨#[]⟩ := by
  have := (ByteArray.extract_eq_empty_iff (b := t) (i := i) (j := j)).2 h
  exact this

section
variable {w0 : World} {σ : Vw}

theorem RT.cells {n : Nat} {rd : Addr → Option Value} {es : List Value} {x : Tr} (h : RT n rd es x) : ∃ u w, es = [.bool (isDir x), .int .i64 (modeOf x), .string (dataOf x), u, w] ∧ (-9223372036854775808 ≤ modeOf x ∧ modeOf x ≤ 9223372036854775807) ∧ (dataOf x).size ≤ 9223372036854775807 ∧ RSl 1 RS rd u (namesOf x) ∧ RSl 5 (RT n) rd w (kidsOf x) ∧ ∀ A : Prop, pVal true 5 (.agg ⟨es⟩) A ↔ A := by
  obtain _ | n := n
  · exact h.elim
  · obtain ⟨d, m, t, ns, ks⟩ := x
    obtain ⟨u, w, rfl, h2, h3, h4, h5⟩ := h
    exact ⟨u, w, rfl, h2, h3, h4, h5.imp fun es x h => RT_up n rd es x h, fun A => pVal_5 rfl rfl rfl h4.one h5.one⟩

/-- A tree that is put into a row of our own. -/
theorem PT.new {n b : Nat} {es : List Value} {x : Tr} (h : RT n (Av.get w0 σ) es x) (hb : w0.heap.size ≤ b) (hn : σ b = none) {ety c : Nat} : PT n (Av.get w0 (σ.put b ⟨ety, es, c, (0, 0)⟩)) (.pointer (some ⟨b, 0, none⟩)) x := by
  have hl : es.length = 5 := by obtain ⟨_, _, _, _, _, rfl, _⟩ := RT.five h; rfl
  refine ⟨_, es, rfl, hl, fun i hi => ?_, mono_rt n _ _ _ _ (Keeps.put hn).le h⟩
  rw [addr_add, get_row hb put_at, Nat.zero_add]
theorem PT.load {n : Nat} {p : Value} {x : Tr} (h : PT n (Av.get w0 σ) p x) {K : (Nat → Value) → Prop} (hK : ∀ g : Nat → Value, RT n (Av.get w0 σ) (expl g 0 5) x → K g) : pLoad w0 5 p σ K := by
  obtain ⟨a, es, rfl, h5, h6, h7⟩ := h
  refine ⟨a, fun i => es.getD i undef, rfl, fun i hi => ?_, hK _ ?_⟩
  · rw [h6 i hi, List.getElem?_eq_getElem (by omega)]
    simp only [List.getD_eq_getElem?_getD, List.getElem?_eq_getElem (show i < es.length by omega), Option.getD_some]
  · have : expl (fun i => es.getD i undef) 0 5 = es := by
      match es, h5 with
      | [a, b, c, d, e], _ => rfl
    rw [this]; exact h7

end
end Go.Proofs.YtlbpnfhhoalenaaDoor

/- A tree as a text: what it is, and by the reference's hand; a line by the program's. -/
set_option linter.unusedVariables false
set_option linter.unusedSimpArgs false
namespace Go.Proofs.YtlbpnfhhoalenaaDoor
open Go Go.Av Go.RowKit

def lineX (path : ByteArray) (d : Bool) (m : Int) (t : ByteArray) : ByteArray :=
  if d = true then ⟨#[100, 105, 114, 32]⟩ ++ path ++ ⟨#[32]⟩ ++ decZ m ++ ⟨#[10]⟩ else ⟨#[102, 105, 108, 101, 32]⟩ ++ path ++ ⟨#[32]⟩ ++ decZ m ++ ⟨#[32]⟩ ++ dataT t ++ ⟨#[10]⟩
def lineT (path : ByteArray) (x : Tr) : ByteArray := lineX path (isDir x) (modeOf x) (dataOf x)
def catB : List ByteArray → ByteArray
  | [] => ⟨#[]⟩
  | a :: r => a ++ catB r
theorem catB_snoc : ∀ (l : List ByteArray) (a : ByteArray), catB (l ++ [a]) = catB l ++ a
  | [], a => by apply bl_inj; simp [catB, bl_append]
  | b :: l, a => by apply bl_inj; simp [catB, catB_snoc l a, bl_append]
def kidP (path : ByteArray) (x : ByteArray) : ByteArray := path ++ ⟨#[47]⟩ ++ x
def belowT : Nat → ByteArray → Tr → ByteArray
  | 0, _, _ => ⟨#[]⟩
  | n + 1, path, .mk d m t ns ks => catB ((ns.zip ks).map fun y => lineT (kidP path y.1) y.2 ++ belowT n (kidP path y.1) y.2)
/-- What is sound is short. -/
def shortT : Nat → Tr → Prop
  | 0, _ => False
  | n + 1, .mk d m t ns ks => (0 ≤ m ∧ m ≤ 7) ∧ t.size ≤ 24 ∧ ns.length = ks.length ∧ (∀ x, x ∈ ns → x.size ≤ 5) ∧ ∀ k, k ∈ ks → shortT n k
theorem sound_short : ∀ (n : Nat) (x : Tr) (k : Int), soundB n x k = true → shortT n x
  | 0, _, _, h => by simp [soundB] at h
  | n + 1, .mk d m t ns ks, k, h => by
    simp only [soundB, plainB, Bool.and_eq_true, decide_eq_true_eq, inB] at h
    obtain ⟨⟨h1, h2, h3⟩, _, h4⟩ := h
    refine ⟨h1, ?_, h2, fun x hx => ?_, fun c hc => ?_⟩
    · cases d
      · simp at h3; exact h3.1
      · simp at h3; rw [h3.2]; show 0 ≤ 24; omega
    · cases d
      · simp at h3; rw [h3.2] at hx; cases hx
      · simp at h3
        obtain ⟨j, hj⟩ := List.getElem?_of_mem hx
        have := h3.1 j x hj
        simp only [nameAt, nameOk, Bool.and_eq_true, decide_eq_true_eq, inB] at this
        omega
    · obtain ⟨j, hj⟩ := List.getElem?_of_mem hc
      exact sound_short n c _ (allB_iff.1 h4 j c hj)
theorem dec_one {m : Int} (h : 0 ≤ m ∧ m ≤ 7) : (decZ m).size ≤ 1 := by
  have e : decZ m = decN m.toNat := by unfold decZ; rw [if_neg (by omega)]
  rw [e]
  have := (decN_size m.toNat).2; omega
theorem dataT_size (t : ByteArray) : (dataT t).size ≤ 1 + 2 * t.size := by
  unfold dataT
  split
  · show 1 ≤ _; omega
  · rw [size_ofL, hexL_len, size_bl]; omega
theorem lineX_size {path : ByteArray} {d : Bool} {m : Int} {t : ByteArray} (hm : 0 ≤ m ∧ m ≤ 7) (ht : t.size ≤ 24) : (lineX path d m t).size ≤ path.size + 60 := by
  have h1 := dec_one hm
  have h2 := dataT_size t
  unfold lineX
  split
  · simp only [ByteArray.size_append]
    show 4 + _ + 1 + _ + 1 ≤ _; omega
  · simp only [ByteArray.size_append]
    show 5 + _ + 1 + _ + 1 + _ + 1 ≤ _; omega
theorem catB_size {α : Type} {f : α → ByteArray} {g : α → Nat} : ∀ {l : List α}, (∀ x, x ∈ l → (f x).size ≤ g x) → (catB (l.map f)).size ≤ sumBy g l
  | [], _ => by simp [catB, sumBy, ByteArray.size]
  | a :: r, h => by
    have h1 := h a (by simp)
    have h2 := catB_size (l := r) fun x hx => h x (by simp [hx])
    simp only [List.map_cons, catB, sumBy, ByteArray.size_append]; omega
theorem sumBy_zip {f : Tr → Nat} {c : Nat} : ∀ {ns : List ByteArray} {ks : List Tr}, sumBy (fun y : ByteArray × Tr => c + c * f y.2) (ns.zip ks) ≤ c * (ks.length + sumBy f ks)
  | [], ks => by simp [sumBy]
  | _ :: _, [] => by simp [sumBy]
  | x :: ns, k :: ks => by
    have := sumBy_zip (f := f) (c := c) (ns := ns) (ks := ks)
    simp only [List.zip_cons_cons, sumBy, List.length_cons]
    have e : c * (ks.length + 1 + (f k + sumBy f ks)) = c * (ks.length + sumBy f ks) + c + c * f k := by
      rw [show ks.length + 1 + (f k + sumBy f ks) = (ks.length + sumBy f ks) + 1 + f k by omega, Nat.mul_add, Nat.mul_add, Nat.mul_one]
    omega
theorem below_size : ∀ (n : Nat) (x : Tr) (path : ByteArray), shortT n x → path.size + 6 * n ≤ 1000000 → (belowT n path x).size ≤ 1000060 * cntT n x
  | 0, _, _, h, _ => h.elim
  | n + 1, .mk d m t ns ks, path, h, hp => by
    obtain ⟨_, _, hl, hns, hks⟩ := h
    have : (belowT (n + 1) path (.mk d m t ns ks)).size ≤ sumBy (fun y : ByteArray × Tr => 1000060 + 1000060 * cntT n y.2) (ns.zip ks) := by
      refine catB_size fun y hy => ?_
      obtain ⟨y1, y2⟩ := y
      have hm := List.of_mem_zip hy
      have h5 := hns _ hm.1
      have hk := hks _ hm.2
      have hpk : (kidP path y1).size = path.size + 1 + y1.size := by unfold kidP; rw [ByteArray.size_append, ByteArray.size_append]; rfl
      have h6 := below_size n y2 (kidP path y1) hk (by omega)
      have h7 : (lineT (kidP path y1) y2).size ≤ (kidP path y1).size + 60 := by
        obtain _ | n := n
        · exact hk.elim
        · obtain ⟨d', m', t', ns', ks'⟩ := y2
          exact lineX_size hk.1 hk.2.1
      rw [ByteArray.size_append]
      simp only
      omega
    exact Nat.le_trans this sumBy_zip
theorem line_size {n : Nat} {x : Tr} (h : shortT n x) (path : ByteArray) : (lineT path x).size ≤ path.size + 60 := by
  obtain _ | n := n
  · exact h.elim
  · obtain ⟨d', m', t', ns', ks'⟩ := x
    exact lineX_size h.1 h.2.1
theorem belowT_step (n : Nat) (path : ByteArray) (d : Bool) (m : Int) (t : ByteArray) (ns : List ByteArray) (ks : List Tr) : belowT (n + 1) path (.mk d m t ns ks) = catB ((ns.zip ks).map fun y => lineT (kidP path y.1) y.2 ++ belowT n (kidP path y.1) y.2) := rfl

section
variable {w0 : World} {σ : Vw}

theorem spec_l1Line {n : Nat} {path : ByteArray} {es : List Value} {x : Tr} (h : RT n (Av.get w0 σ) es x) (hx : shortT n x) (hp : path.size ≤ 1000000) {R : Value → Vw → Prop} (hR : ∀ σ', Keeps σ σ' → R (.string (lineT path x)) σ') : AC Tryd.prog w0 n_spec_l1Line [.string path, .agg ⟨es⟩] σ R := by
  obtain _ | n := n
  · exact h.elim
  obtain ⟨d, m, t, ns, ks⟩ := x
  obtain ⟨u, w, rfl, h2, h3, h4, h5⟩ := h
  have h1 := dec_one hx.1
  have hdt := dataT_size t
  have ht := hx.2.1
  refine ac_spec_l1Line ?_
  unfold vc_spec_l1Line
  rw [pVal_5 rfl rfl rfl h4.one h5.one]
  simp only [cellOf_agg, List.getD_cons_zero, List.getD_cons_succ]
  have a4 : (⟨#[100, 105, 114, 32]⟩ : ByteArray).size = 4 := rfl
  have a5 : (⟨#[102, 105, 108, 101, 32]⟩ : ByteArray).size = 5 := rfl
  have a1 : (⟨#[32]⟩ : ByteArray).size = 1 := rfl
  have a10 : (⟨#[10]⟩ : ByteArray).size = 1 := rfl
  rw [pIf_b]
  refine ⟨fun hd => ?_, fun hd => ?_⟩
  · rw [pBin_cat (by omega), pBin_cat (by rw [ByteArray.size_append]; omega)]
    refine spec_l1Dec h2 fun s1 k1 => ?_
    rw [pBin_cat (by simp only [ByteArray.size_append]; omega), pBin_cat (by simp only [ByteArray.size_append]; omega)]
    have e : lineT path (.mk d m t ns ks) = ⟨#[100, 105, 114, 32]⟩ ++ path ++ ⟨#[32]⟩ ++ decZ m ++ ⟨#[10]⟩ := by
      subst hd; rfl
    have := hR s1 k1
    rw [e] at this; exact this
  · rw [pBin_cat (by omega), pBin_cat (by rw [ByteArray.size_append]; omega)]
    refine spec_l1Dec h2 fun s1 k1 => ?_
    rw [pBin_cat (by simp only [ByteArray.size_append]; omega), pBin_cat (by simp only [ByteArray.size_append]; omega)]
    refine spec_l1Hex (by omega) ?_
    rw [pBin_cat (by simp only [ByteArray.size_append]; omega), pBin_cat (by simp only [ByteArray.size_append]; omega)]
    have e : lineT path (.mk d m t ns ks) = ⟨#[102, 105, 108, 101, 32]⟩ ++ path ++ ⟨#[32]⟩ ++ decZ m ++ ⟨#[32]⟩ ++ dataT t ++ ⟨#[10]⟩ := by
      subst hd; rfl
    have := hR s1 k1
    rw [e] at this; exact this

theorem impl_Tree_line (tab : Tab w0) {n : Nat} {v : Value} {ps : List ByteArray} {es : List Value} {x : Tr} (h : RT n (Av.get w0 σ) es x) (hx : shortT n x) (hv : RSl 1 RS (Av.get w0 σ) v ps) (hp : ps.length + sumS ps ≤ 1000000) {R : Value → Vw → Prop} (hR : ∀ σ', Keeps σ σ' → R (.string (lineT (pathT ps) x)) σ') : AC Tryd.prog w0 n_impl_Tree_line [.agg ⟨es⟩, v] σ R := by
  obtain _ | n := n
  · exact h.elim
  obtain ⟨d, m, t, ns, ks⟩ := x
  obtain ⟨u, w, rfl, h2, h3, h4, h5⟩ := h
  have h1 := dec_one hx.1
  have hdt := dataT_size t
  have ht := hx.2.1
  have hps := pathT_size ps
  refine ac_impl_Tree_line ?_
  unfold vc_impl_Tree_line
  rw [pVal_5 rfl rfl rfl h4.one h5.one]
  simp only [cellOf_agg, List.getD_cons_zero, List.getD_cons_succ]
  have a4 : (⟨#[100, 105, 114, 32]⟩ : ByteArray).size = 4 := rfl
  have a5 : (⟨#[102, 105, 108, 101, 32]⟩ : ByteArray).size = 5 := rfl
  have a1 : (⟨#[32]⟩ : ByteArray).size = 1 := rfl
  have a10 : (⟨#[10]⟩ : ByteArray).size = 1 := rfl
  rw [pIf_b]
  refine ⟨fun hd => ?_, fun hd => ?_⟩
  · refine impl_pathText hv (by omega) ?_
    rw [pBin_cat (by omega), pBin_cat (by rw [ByteArray.size_append]; omega)]
    refine strconv_Itoa tab h2 ?_
    rw [pBin_cat (by simp only [ByteArray.size_append]; omega), pBin_cat (by simp only [ByteArray.size_append]; omega)]
    have e : lineT (pathT ps) (.mk d m t ns ks) = ⟨#[100, 105, 114, 32]⟩ ++ pathT ps ++ ⟨#[32]⟩ ++ decZ m ++ ⟨#[10]⟩ := by
      subst hd; rfl
    have := hR σ (Keeps.refl _)
    rw [e] at this; exact this
  · refine impl_pathText hv (by omega) ?_
    rw [pBin_cat (by omega), pBin_cat (by rw [ByteArray.size_append]; omega)]
    refine strconv_Itoa tab h2 ?_
    rw [pBin_cat (by simp only [ByteArray.size_append]; omega), pBin_cat (by simp only [ByteArray.size_append]; omega)]
    refine impl_dataText (by omega) fun s1 k1 => ?_
    rw [pBin_cat (by simp only [ByteArray.size_append]; omega), pBin_cat (by simp only [ByteArray.size_append]; omega)]
    have e : lineT (pathT ps) (.mk d m t ns ks) = ⟨#[102, 105, 108, 101, 32]⟩ ++ pathT ps ++ ⟨#[32]⟩ ++ decZ m ++ ⟨#[32]⟩ ++ dataT t ++ ⟨#[10]⟩ := by
      subst hd; rfl
    have := hR s1 k1
    rw [e] at this; exact this

theorem spec_l1Show : ∀ (n : Nat) {σ : Vw} {path : ByteArray} {es : List Value} {x : Tr} {R : Value → Vw → Prop}, RT n (Av.get w0 σ) es x → shortT n x → path.size + 6 * n ≤ 1000000 → cntT n x ≤ 100000 → (∀ σ', Keeps σ σ' → R (.string (belowT n path x)) σ') → AC Tryd.prog w0 n_spec_l1Show [.string path, .agg ⟨es⟩] σ R
  | 0, _, _, _, _, _, h, _, _, _, _ => h.elim
  | n + 1, σ, path, es, .mk d m t ns ks, R, h, hx, hp, hc, hR => by
    have hbs := below_size (n + 1) _ path hx hp
    obtain ⟨u, w, rfl, h2, h3, h4, h5⟩ := h
    obtain ⟨hm, ht, hl, hns, hks⟩ := hx
    refine ac_spec_l1Show ?_
    unfold vc_spec_l1Show
    rw [pVal_5 rfl rfl rfl h4.one h5.one]
    simp only [cellOf_agg, List.getD_cons_zero, List.getD_cons_succ]
    rw [belowT_step] at hR hbs
    have hcnt : cntT (n + 1) (.mk d m t ns ks) = ks.length + sumBy (cntT n) ks := rfl
    have htk : ∀ j, (catB (((ns.zip ks).take j).map fun y => lineT (kidP path y.1) y.2 ++ belowT n (kidP path y.1) y.2)).size ≤ 1000060 * cntT (n + 1) (.mk d m t ns ks) := fun j => by
      have h1 : (catB (((ns.zip ks).take j).map fun y => lineT (kidP path y.1) y.2 ++ belowT n (kidP path y.1) y.2)).size ≤ sumBy (fun y : ByteArray × Tr => 1000060 + 1000060 * cntT n y.2) ((ns.zip ks).take j) := by
        refine catB_size fun y hy => ?_
        obtain ⟨y1, y2⟩ := y
        have hmz := List.of_mem_zip (List.mem_of_mem_take hy)
        have h5 := hns _ hmz.1
        have hk := hks _ hmz.2
        have hpk : (kidP path y1).size = path.size + 1 + y1.size := by unfold kidP; rw [ByteArray.size_append, ByteArray.size_append]; rfl
        have h6 := below_size n y2 (kidP path y1) hk (by omega)
        have h7 := line_size hk (kidP path y1)
        rw [ByteArray.size_append]
        simp only
        omega
      exact Nat.le_trans (Nat.le_trans h1 (sumBy_le j)) sumBy_zip
    refine loop_rule (m := ns.length) (fun c l s => ∃ j : Nat, c + j = ns.length ∧ Keeps σ s ∧ l = [.string path, .string (catB (((ns.zip ks).take j).map fun y => lineT (kidP path y.1) y.2 ++ belowT n (kidP path y.1) y.2)), .int .i64 (j : Nat), .bool d, .int .i64 m, .string t, u, w]) ?_ ⟨0, by omega, Keeps.refl _, rfl⟩
    rintro c l s L ⟨j, hcj, ks1, rfl⟩ hL
    simp only [vget, List.getD_cons_zero, List.getD_cons_succ]
    have hl4 := h4.le
    have h4' := h4.mono ks1.le fun _ _ h => h
    have h5' := h5.mono ks1.le fun es x => mono_rt n _ _ es x ks1.le
    rw [h4'.len, pBin_lt, pIf_d]
    refine ⟨fun hi => ?_, fun hi => ?_⟩
    · have hx1 := List.getElem?_eq_getElem (show j < ns.length by omega)
      have hx2 := List.getElem?_eq_getElem (show j < ks.length by omega)
      generalize hxi : ns[j]'(by omega) = y1 at hx1
      generalize hxk : ks[j]'(by omega) = y2 at hx2
      have h5y := hns _ (List.mem_of_getElem? hx1)
      have hky := hks _ (List.mem_of_getElem? hx2)
      have hz : (ns.zip ks)[j]? = some (y1, y2) := by rw [List.getElem?_zip_eq_some]; exact ⟨hx1, hx2⟩
      have hcy : cntT n y2 ≤ 100000 := by
        have := sumBy_mem (f := cntT n) (List.mem_of_getElem? hx2); omega
      have hpk : (kidP path y1).size = path.size + 1 + y1.size := by unfold kidP; rw [ByteArray.size_append, ByteArray.size_append]; rfl
      have hb6 := below_size n y2 (kidP path y1) hky (by omega)
      have hb7 := line_size hky (kidP path y1)
      have hb8 := htk j
      have a1 : (⟨#[47]⟩ : ByteArray).size = 1 := rfl
      rw [pBin_cat (by omega)]
      refine RSl.at1 h4' hx1 fun g hg hgs => ?_
      rw [hg, pBin_cat (by rw [ByteArray.size_append]; omega)]
      refine h5'.at hx2 fun g1 hg1 => ?_
      refine RSl.atp h5' hx2 fun p2 g2 hg2 => ?_
      have e1 : path ++ ⟨#[47]⟩ ++ y1 = kidP path y1 := rfl
      rw [e1]
      refine spec_l1Line hg1 hky (by omega) fun s2 k2 => ⟨k2.stay, ?_⟩
      rw [pBin_cat (by omega)]
      refine spec_l1Show n (mono_rt n _ _ _ _ k2.le hg2) hky (by omega) hcy fun s3 k3 => ?_
      rw [pBin_cat (by rw [ByteArray.size_append]; omega), pBin_add (by omega)]
      refine hL _ _ (c - 1) (by omega) ⟨j + 1, by omega, (ks1.trans k2).trans k3, ?_⟩
      rw [List.take_add_one, hz, Option.toList_some, List.map_append, List.map_cons, List.map_nil, catB_snoc]
      have e2 : ∀ a b c : ByteArray, a ++ b ++ c = a ++ (b ++ c) := fun a b c => by apply bl_inj; simp [bl_append]
      rw [e2]; simp
    · have e : j = ns.length := by omega
      subst e
      rw [List.take_of_length_le (by rw [List.length_zip]; omega)]
      exact hR s ks1
end
end Go.Proofs.YtlbpnfhhoalenaaDoor

/- strings.Builder's WriteString and copyCheck in this program: what the library's contracts ask of it. -/
namespace Go.Proofs
def Tryd.laysB_ren : Go.Shelf.Ren := ⟨fun | 165 => 135 | 240 => 94 | 241 => 151 | 276 => 120 | 277 => 162 | 166 => 52 | n => n, fun | 70 => 72 | 3 => 3 | 0 => 0 | 4 => 4 | 9 => 9 | 20 => 20 | 72 => 75 | 37 => 73 | 164 => 122 | 5 => 5 | 75 => 77 | 80 => 62 | n => n, fun | n => n⟩
theorem Tryd.laysB240 : Go.Proofs.Lays.n240 Tryd.prog Tryd.laysB_ren := {
  mixed := by kernel_rfl
  f240 := Tryd.func94.trans (congrArg some (by kernel_rfl))
  f276 := Tryd.func120.trans (congrArg some (by kernel_rfl))
  t0 := Tryd.underlying0
  a0 := Tryd.isAgg0
  z0 := Tryd.sizeOf0
  v0 := Tryd.zeroValue0
  t4 := Tryd.underlying4
  a4 := Tryd.isAgg4
  z4 := Tryd.sizeOf4
  v4 := Tryd.zeroValue4
  t9 := Tryd.underlying9
  a9 := Tryd.isAgg9
  z9 := Tryd.sizeOf9
  v9 := Tryd.zeroValue9
  t20 := Tryd.underlying20
  a20 := Tryd.isAgg20
  z20 := Tryd.sizeOf20
  v20 := Tryd.zeroValue20
  t70 := Tryd.underlying72
  a70 := Tryd.isAgg72
  z70 := Tryd.sizeOf72
  v70 := Tryd.zeroValue72
  t72 := Tryd.underlying75
  a72 := Tryd.isAgg75
  z72 := Tryd.sizeOf75
  v72 := Tryd.zeroValue75
  t164 := Tryd.underlying122
  a164 := Tryd.isAgg122
  z164 := Tryd.sizeOf122
  v164 := Tryd.zeroValue122 }
theorem Tryd.laysB166 : Go.Proofs.Lays.n166 Tryd.prog Tryd.laysB_ren := {
  mixed := by kernel_rfl
  f166 := Tryd.func52.trans (congrArg some (by kernel_rfl))
  f240 := Tryd.func94.trans (congrArg some (by kernel_rfl))
  f276 := Tryd.func120.trans (congrArg some (by kernel_rfl))
  t0 := Tryd.underlying0
  a0 := Tryd.isAgg0
  z0 := Tryd.sizeOf0
  v0 := Tryd.zeroValue0
  t3 := Tryd.underlying3
  a3 := Tryd.isAgg3
  z3 := Tryd.sizeOf3
  v3 := Tryd.zeroValue3
  t4 := Tryd.underlying4
  a4 := Tryd.isAgg4
  z4 := Tryd.sizeOf4
  v4 := Tryd.zeroValue4
  t9 := Tryd.underlying9
  a9 := Tryd.isAgg9
  z9 := Tryd.sizeOf9
  v9 := Tryd.zeroValue9
  t20 := Tryd.underlying20
  a20 := Tryd.isAgg20
  z20 := Tryd.sizeOf20
  v20 := Tryd.zeroValue20
  t37 := Tryd.underlying73
  a37 := Tryd.isAgg73
  z37 := Tryd.sizeOf73
  v37 := Tryd.zeroValue73
  t70 := Tryd.underlying72
  a70 := Tryd.isAgg72
  z70 := Tryd.sizeOf72
  v70 := Tryd.zeroValue72
  t72 := Tryd.underlying75
  a72 := Tryd.isAgg75
  z72 := Tryd.sizeOf75
  v72 := Tryd.zeroValue75
  t75 := Tryd.underlying77
  a75 := Tryd.isAgg77
  z75 := Tryd.sizeOf77
  v75 := Tryd.zeroValue77
  t164 := Tryd.underlying122
  a164 := Tryd.isAgg122
  z164 := Tryd.sizeOf122
  v164 := Tryd.zeroValue122 }
theorem Tryd.laysB_extra : Builder.Extra Tryd.prog Tryd.laysB_ren := {
  sizeBuilder := by kernel_rfl
  liesBuilder := by kernel_rfl
  t5 := Tryd.underlying5
  a5 := Tryd.isAgg5
  z5 := Tryd.sizeOf5
  v5 := Tryd.zeroValue5
  infoByte := by kernel_rfl
  cellsByte := by kernel_rfl
  sizeByte := by kernel_rfl
  neB5 := by decide }
end Go.Proofs

/- strings.Builder: a text is written, and all but the builder and its row stands as it stood. -/
set_option linter.unusedVariables false
set_option linter.unusedSimpArgs false
namespace Go.Proofs
open Go.Shelf Go.RowKit

/-- What a write leaves: every block but the builder's and its row's. -/
def Rest (b : Nat) (row : Option Nat) (w w' : World) : Prop := ∀ k, k < w.heap.size → k ≠ b → row ≠ some k → w'.heap[k]? = w.heap[k]?

/-- Where what is appended to a list of bytes lies: in its row, or in a new one. -/
theorem append_place {P : Program} (w : World) (base : Nat) (t u ty e : TypeId) (i : TypeInfo) (ht : P.underlying t = some (.slice e)) (hu : P.underlying u = some .string) (hi : P.info? e = some i) (hz : i.zero = some (.int .u8 0))
    (hsize : i.size = 1) (hby : i.bytes = 1) (v : Value) (n : Nat) (xs : List Value) (hown : w.ownsRow base e 1 v n xs) (s : ByteArray)
    (h63 : n + s.size ≤ maxLen) (hbytes : n + s.size ≤ 140737488355328) (hbase : base ≤ w.heap.size) :
    ∃ v' w', (Builtin.append_ #[t, u] ty #[v, .string s]).run P w = .ok v' w' ∧ w'.ownsRow base e 1 v' (n + s.size) (xs ++ Lib.strCells s) ∧ w.grownBy w' v.ownBlock ∧
      (v'.ownBlock = v.ownBlock ∨ ∀ g, v'.ownBlock = some g → w.heap.size ≤ g) := by
  obtain ⟨v', w', hr, h2, h3, _⟩ := Lib.run_append_own_string (P := P) w base t u ty e i ht hu hi hz hsize hby v n xs hown s h63 hbytes hbase
  refine ⟨v', w', hr, h2, h3, ?_⟩
  have hxl : xs.length = n := by simpa using hown.1
  rcases hown.2 with ⟨rfl, rfl⟩ | ⟨g, cap, cur, rfl, hbg, hg, hnc, hcm, hcs, htake⟩
  · have hown2 : w.ownsRow w.heap.size e 1 (.slice none 0 0) 0 xs := ⟨by simpa using hxl, .inl ⟨rfl, rfl⟩⟩
    obtain ⟨v2, w2, hr2, q2, _, _⟩ := Lib.run_append_own_string (P := P) w w.heap.size t u ty e i ht hu hi hz hsize hby (.slice none 0 0) 0 xs hown2 s h63 hbytes (Nat.le_refl _)
    have e2 := hr.symm.trans hr2
    cases e2
    refine .inr fun g hg => ?_
    rcases q2.2 with ⟨rfl, _⟩ | ⟨g', cap, cur, rfl, hbg, _⟩
    · cases hg
    · cases hg; exact hbg
  · by_cases hroom : n + s.size ≤ cap
    · have hr2 := Lib.run_append_room_string (P := P) w t u ty e i ht hu hi hsize g n cap cur hg s hroom (by omega)
      have e2 := hr.symm.trans hr2
      cases e2
      exact .inl rfl
    · have holds : ∀ j u, xs[j]? = some u → w.cell? ((⟨g, 0, none⟩ : Addr).add j) = some u := hown.cells (g := g) rfl
      have hr2 := Lib.run_append_grow_string (P := P) w t u ty e i (.int .u8 0) ht hu hi hz ⟨g, 0, none⟩ n cap xs (by rw [hsize]; simpa using hxl) holds s (by omega) (by simp only [maxLen] at h63; omega) (by rw [hby]; exact growslice_fits (by omega) (by omega))
      have e2 := hr.symm.trans hr2
      cases e2
      refine .inr fun g hg => ?_
      cases hg; exact Nat.le_refl _
theorem wp_append_place {P : Program} {w : World} {ops : Array Oper} {rest : List Oper} {o : Oper} {a : Act} {Q : Exit → Act → World → Prop} (hgd : o.guard = none) (sl x : Operand) (t u : TypeId)
    (ho : o.op = .call { callee := .builtin .append, args := #[sl, x], argTypes := #[t, u] })
    (base : Nat) (e : TypeId) (i : TypeInfo) (ht : P.underlying t = some (.slice e)) (hu : P.underlying u = some .string) (hi : P.info? e = some i) (hz : i.zero = some (.int .u8 0))
    (hsize : i.size = 1) (hby : i.bytes = 1) (v : Value) (n : Nat) (xs : List Value) (hs : a.eval sl = v) (hown : w.ownsRow base e 1 v n xs) (s : ByteArray) (hx : a.eval x = .string s)
    (h63 : n + s.size ≤ maxLen) (hbytes : n + s.size ≤ 140737488355328) (hbase : base ≤ w.heap.size)
    (h : ∀ v' w', w'.ownsRow base e 1 v' (n + s.size) (xs ++ Lib.strCells s) → w.grownBy w' v.ownBlock → (v'.ownBlock = v.ownBlock ∨ ∀ g, v'.ownBlock = some g → w.heap.size ≤ g) → wpList P ops Q rest (a.put o.dst v') w') : wpList P ops Q (o :: rest) a w := by
  refine wpList_plain hgd fun K hK => ?_
  obtain ⟨v', w', hr, h2, h3, h4⟩ := append_place (P := P) w base t u o.type e i ht hu hi hz hsize hby v n xs hown s h63 hbytes hbase
  unfold Oper.wp execOp
  simp only [ho, resolve, invoke, builtin, Sem.run_bind, Sem.run_pure, Result.andThen_ok, List.map_toArray, List.map_cons, List.map_nil, hs, hx, hr]
  exact hK _ _ (h v' w' h2 h3 h4)

set_option maxHeartbeats 4000000 in
set_option maxRecDepth 100000 in
theorem Tryd.check_exact (B b : Nat) (p v : Value) (bs : List Value) (w : World) (hp : p = .pointer none ∨ p = .pointer (some ⟨b, 0, none⟩)) (hB : B ≤ b) (hbk : w.heap[b]? = some (.cells #[p, v] (Tryd.laysB_ren.t 72) (0, 0))) (hown : w.ownsRow B (Tryd.laysB_ren.t 5) 1 v bs.length bs) (hne : v.ownBlock ≠ some b) :
    Calls Tryd.prog (Tryd.laysB_ren.f 240) #[.pointer (some ⟨b, 0, none⟩)] w fun e w1 => e = .returned (.tuple #[]) ∧
      w1.heap[b]? = some (.cells #[.pointer (some ⟨b, 0, none⟩), v] (Tryd.laysB_ren.t 72) (0, 0)) ∧ w1.ownsRow B (Tryd.laysB_ren.t 5) 1 v bs.length bs ∧ (∀ k, k ≠ b → w1.heap[k]? = w.heap[k]?) ∧ w1.heap.size = w.heap.size ∧ Below B w w1 := by
  have h0 : w.cell? ⟨b, 0, none⟩ = some p := by rw [Lib.cell_of_heap hbk]; rfl
  rcases hp with rfl | rfl
  · have hAt : Lib.BuilderAt (Tryd.laysB_ren.t 72) (Tryd.laysB_ren.t 5) B b (.pointer none) bs w := ⟨hB, v, hbk, hown, hne⟩
    refine (Any.Builder_copyCheck_fresh Tryd.laysB240 Tryd.laysB_extra.toX72 b w hAt.cell0 hAt.shape hAt.frozen0).mono ?_
    rintro e w1 ⟨rfl, rfl⟩
    have hk : ∀ k, k ≠ b → (w.setCell ⟨b, 0, none⟩ (.pointer (some ⟨b, 0, none⟩))).heap[k]? = w.heap[k]? := fun k hk => by
      have hk' : b ≠ k := fun e => hk e.symm
      simp [World.setCell, Array.getElem?_modify, hk']
    have hb1 : (w.setCell ⟨b, 0, none⟩ (.pointer (some ⟨b, 0, none⟩))).heap[b]? = some (.cells #[.pointer (some ⟨b, 0, none⟩), v] (Tryd.laysB_ren.t 72) (0, 0)) := by
      simp [World.setCell, Array.getElem?_modify, hbk]
    refine ⟨rfl, hb1, ?_, hk, by simp [World.setCell], (Below.refl B w).setCell (p := ⟨b, 0, none⟩) hB _⟩
    obtain ⟨g1, g2⟩ := hown
    refine ⟨g1, ?_⟩
    rcases g2 with g2 | ⟨g, cap, cur, rfl, q1, q2, q3⟩
    · exact .inl g2
    · refine .inr ⟨g, cap, cur, rfl, q1, ?_, q3⟩
      rw [hk g (fun e => hne (by rw [← e]; rfl))]; exact q2
  · refine (Any.Builder_copyCheck_used Tryd.laysB240 Tryd.laysB_extra.toX72 b w h0).mono ?_
    rintro e w1 ⟨rfl, rfl⟩
    exact ⟨rfl, hbk, hown, fun _ _ => rfl, rfl, Below.refl _ _⟩

set_option maxHeartbeats 4000000 in
set_option maxRecDepth 100000 in
theorem Tryd.write_exact (B b : Nat) (p v : Value) (bs : List Value) (s : ByteArray) (w : World) (hp : p = .pointer none ∨ p = .pointer (some ⟨b, 0, none⟩)) (hB : B ≤ b) (hbk : w.heap[b]? = some (.cells #[p, v] (Tryd.laysB_ren.t 72) (0, 0))) (hown : w.ownsRow B (Tryd.laysB_ren.t 5) 1 v bs.length bs) (hne : v.ownBlock ≠ some b) (hlen : bs.length + s.size ≤ 140737488355328) (hBw : B ≤ w.heap.size) :
    Calls Tryd.prog (Tryd.laysB_ren.f 166) #[.pointer (some ⟨b, 0, none⟩), .string s] w fun e w' => e = .returned (.tuple #[.int .i64 s.size, .nilIface]) ∧
      ∃ v', w'.heap[b]? = some (.cells #[.pointer (some ⟨b, 0, none⟩), v'] (Tryd.laysB_ren.t 72) (0, 0)) ∧ w'.ownsRow B (Tryd.laysB_ren.t 5) 1 v' (bs ++ Lib.strCells s).length (bs ++ Lib.strCells s) ∧ v'.ownBlock ≠ some b ∧ (v'.ownBlock = v.ownBlock ∨ ∀ g, v'.ownBlock = some g → w.heap.size ≤ g) ∧ Rest b v.ownBlock w w' ∧ Below B w w' ∧ w.heap.size ≤ w'.heap.size := by
  have L := Tryd.laysB166
  have X := Tryd.laysB_extra
  obtain ⟨i0, hi, hz0, hz1, hz2⟩ := info_parts X.infoByte
  have mixed := L.mixed
  have u72 := run_underlying L.t72; have u70 := run_underlying L.t70; have u37 := run_underlying L.t37; have u3 := run_underlying L.t3
  have u9 := run_underlying L.t9; have u4 := run_underlying L.t4; have u164 := run_underlying L.t164; have u5 := run_underlying X.t5
  have a72 := L.a72; have z72 := L.z72; have v72 := L.v72; have t72 := L.t72
  have a70 := L.a70; have z70 := L.z70; have v70 := L.v70; have t70 := L.t70
  have a37 := L.a37; have z37 := L.z37; have v37 := L.v37; have t37 := L.t37
  have a3 := L.a3; have z3 := L.z3; have v3 := L.v3; have t3 := L.t3
  have a9 := L.a9; have z9 := L.z9; have v9 := L.v9; have t9 := L.t9
  have a5 := X.a5; have z5 := X.z5; have v5 := X.v5; have t5 := X.t5
  have e240 : ∀ args w, (callFunc (Tryd.laysB_ren.f 240) args).run Tryd.prog w = .ok (.enter (Tryd.laysB_ren.f 240) args) w := enters_of L.f240 (by kernel_rfl) rfl
  go_enter L.f166, Body.n166_ntmps Tryd.laysB_ren
  go_wp2_with (go_at_fn (Tryd.laysB_ren.f 240); refine (Tryd.check_exact B b p v bs _ hp hB hbk hown hne).mono ?_)
  rintro e w1 ⟨rfl, hbk1, hown1, hk1, hs1, hb1⟩
  have c0 : w1.cell? ⟨b, 0, none⟩ = some (.pointer (some ⟨b, 0, none⟩)) := by rw [Lib.cell_of_heap hbk1]; rfl
  have c1 : w1.cell? ⟨b, 1, none⟩ = some v := by rw [Lib.cell_of_heap hbk1]; rfl
  go_wp2_with (at_builtin; refine wp_append_place rfl _ _ (Tryd.laysB_ren.t 37) (Tryd.laysB_ren.t 9) rfl B (Tryd.laysB_ren.t 5) i0 L.t37 L.t9 hi hz0 hz1 hz2 _ _ _ rfl hown1 s rfl ?c3 ?c4 ?c5 ?_)
  case c3 => unfold maxLen; omega
  case c4 => omega
  case c5 => omega
  intro v' w2 hown' hgrow hplace
  have hlt : b < w1.heap.size := by
    rcases Nat.lt_or_ge b w1.heap.size with h' | h'
    · exact h'
    · simp [Array.getElem?_eq_none h'] at hbk1
  have hb2 : w2.heap[b]? = some (.cells #[.pointer (some ⟨b, 0, none⟩), v] (Tryd.laysB_ren.t 72) (0, 0)) := by
    rw [hgrow.block b hlt (fun e => hne e.symm)]; exact hbk1
  have d0 : w2.cell? ⟨b, 0, none⟩ = some (.pointer (some ⟨b, 0, none⟩)) := by rw [Lib.cell_of_heap hb2]; rfl
  have d1 : w2.cell? ⟨b, 1, none⟩ = some v := by rw [Lib.cell_of_heap hb2]; rfl
  have f1 : w2.frozen? ⟨b, 1, none⟩ = false := Lib.frozen_of_heap hb2 1
  have hne' : v'.ownBlock ≠ some b := by
    rcases hplace with h | h
    · rw [h]; exact hne
    · intro e
      have := h b e
      omega
  obtain ⟨ao, n', cap, rfl⟩ : ∃ ao n' cap, v' = .slice ao n' cap := by
    rcases hown'.2 with ⟨hv, _⟩ | ⟨g, cap, cur, hv, _⟩
    · exact ⟨_, _, _, hv⟩
    · exact ⟨_, _, _, hv⟩
  go_wp2
  go_ret2
  have hput := Lib.BuilderAt.put (T := (Tryd.laysB_ren.t 72)) (e := (Tryd.laysB_ren.t 5)) hB hb2 (bs' := bs ++ Lib.strCells s) (by simpa [Lib.strCells_length] using hown') X.neB5
  obtain ⟨_, v2, hv2, hown2, hne2⟩ := hput
  have hv3 : (w2.setCell ⟨b, 1, none⟩ (.slice ao n' cap)).heap[b]? = some (.cells #[.pointer (some ⟨b, 0, none⟩), .slice ao n' cap] (Tryd.laysB_ren.t 72) (0, 0)) := by
    simp [World.setCell, Array.getElem?_modify, hb2]
  rw [hv3] at hv2
  have e3 : (.slice ao n' cap : Value) = v2 := by simp at hv2; exact hv2
  subst e3
  refine ⟨rfl, _, hv3, hown2, hne', ?_, fun k hk hkb hrow => ?_, ?_, ?_⟩
  · exact hplace
  · have hkb' : b ≠ k := fun e => hkb e.symm
    have e4 : (w2.setCell ⟨b, 1, none⟩ (.slice ao n' cap)).heap[k]? = w2.heap[k]? := by simp [World.setCell, Array.getElem?_modify, hkb']
    rw [e4, hgrow.block k (by omega) (fun e => hrow e.symm), hk1 k hkb]
  · exact (hb1.grown hgrow (by omega) (fun k hk => (hown1.lt k hk).1)).setCell (p := ⟨b, 1, none⟩) hB _
  · have := hgrow.size
    have e5 : (w2.setCell ⟨b, 1, none⟩ (.slice ao n' cap)).heap.size = w2.heap.size := by simp [World.setCell]
    omega
end Go.Proofs

/- strings.Builder in a view: a text is written. -/
set_option linter.unusedVariables false
set_option linter.unusedSimpArgs false
namespace Go.Proofs.YtlbpnfhhoalenaaDoor
open Go Go.Av Go.RowKit

/-- A builder in rows of our own, and the bytes that it holds. -/
def BV (w0 : World) (σ : Vw) (b : Nat) (F : List Nat) (bs : List Value) : Prop :=
  w0.heap.size ≤ b ∧ ∃ p v, (p = .pointer none ∨ p = .pointer (some ⟨b, 0, none⟩)) ∧ σ b = some ⟨Tryd.laysB_ren.t 72, [p, v], 2, (0, 0)⟩ ∧
    ((v = .slice none 0 0 ∧ bs = [] ∧ F = [b]) ∨ ∃ q cap, v = .slice (some ⟨q, 0, none⟩) bs.length cap ∧ w0.heap.size ≤ q ∧ q ≠ b ∧ σ q = some ⟨Tryd.laysB_ren.t 5, bs, cap, (0, 0)⟩ ∧ bs.length ≤ cap ∧ cap ≤ maxLen ∧ F = [b, q])

section
variable {w0 : World} {σ : Vw}

theorem BV.new {b : Nat} (hb : w0.heap.size ≤ b) : BV w0 (σ.put b ⟨Tryd.laysB_ren.t 72, [.pointer none, .slice none 0 0], 2, (0, 0)⟩) b [b] [] :=
  ⟨hb, _, _, .inl rfl, put_at, .inl ⟨rfl, rfl, rfl⟩⟩
theorem BV.frame {σ' : Vw} {b : Nat} {F : List Nat} {bs : List Value} (h : BV w0 σ b F bs) (hF : ∀ i, i ∈ F → σ' i = σ i) : BV w0 σ' b F bs := by
  obtain ⟨hb, p, v, hp, hr, ⟨rfl, rfl, rfl⟩ | ⟨q, cap, rfl, h1, h2, h3, h4, h5, rfl⟩⟩ := h
  · exact ⟨hb, p, _, hp, (hF b (by simp)).trans hr, .inl ⟨rfl, rfl, rfl⟩⟩
  · exact ⟨hb, p, _, hp, (hF b (by simp)).trans hr, .inr ⟨q, cap, rfl, h1, h2, (hF q (by simp)).trans h3, h4, h5, rfl⟩⟩
theorem BV.dom {b : Nat} {F : List Nat} {bs : List Value} (h : BV w0 σ b F bs) : ∀ i, i ∈ F → w0.heap.size ≤ i ∧ σ i ≠ none := by
  obtain ⟨hb, p, v, hp, hr, ⟨rfl, rfl, rfl⟩ | ⟨q, cap, rfl, h1, h2, h3, h4, h5, rfl⟩⟩ := h
  · intro i hi; rw [List.mem_singleton.1 hi]; exact ⟨hb, by rw [hr]; simp⟩
  · intro i hi
    simp at hi
    rcases hi with rfl | rfl
    · exact ⟨hb, by rw [hr]; simp⟩
    · exact ⟨h1, by rw [h3]; simp⟩

theorem write_view {b : Nat} {F : List Nat} {bs : List Value} {s : ByteArray} (h : BV w0 σ b F bs) (hlen : bs.length + s.size ≤ 140737488355328) {R : Value → Vw → Prop}
    (hR : ∀ F' σ', KeepsBut F σ σ' → BV w0 σ' b F' (bs ++ Lib.strCells s) → (∀ i, i ∈ F' → i ∈ F ∨ σ i = none) → R (.tuple ⟨[.int .i64 s.size, .nilIface]⟩) σ') :
    AC Tryd.prog w0 n_p_strings_Builder_WriteString [.pointer (some ⟨b, 0, none⟩), .string s] σ R := by
  refine ⟨is_p_strings_Builder_WriteString, fun w hw => ?_⟩
  obtain ⟨hb, p, v, hp, hr, hv⟩ := h
  have hbk : w.heap[b]? = some (.cells #[p, v] (Tryd.laysB_ren.t 72) (0, 0)) := by
    obtain ⟨_, cur, hc, hpre, hcap, _⟩ := hw.row b _ hr
    simp only at hc hpre hcap
    have hl : cur.toList = [p, v] := by
      obtain ⟨t, ht⟩ := hpre
      have := congrArg List.length ht
      simp only [List.length_append, List.length_cons, List.length_nil, Array.length_toList, hcap] at this
      have ht0 : t = [] := List.eq_nil_of_length_eq_zero (by omega)
      rw [ht0] at ht
      simpa using ht.symm
    have hc2 : cur = #[p, v] := by apply Array.ext'; simpa using hl
    rw [← hc2]; exact hc
  have hown : w.ownsRow w0.heap.size (Tryd.laysB_ren.t 5) 1 v bs.length bs ∧ v.ownBlock ≠ some b ∧ (∀ i, v.ownBlock = some i → i ∈ F) ∧ b ∈ F := by
    rcases hv with ⟨rfl, rfl, rfl⟩ | ⟨q, cap, rfl, h1, h2, h3, h4, h5, rfl⟩
    · exact ⟨⟨rfl, .inl ⟨rfl, rfl⟩⟩, nofun, nofun, by simp⟩
    · obtain ⟨_, cur, hc, hpre, hcap, _⟩ := hw.row q _ h3
      simp only at hc hpre hcap
      refine ⟨⟨by simp, .inr ⟨q, cap, cur, rfl, h1, hc, h4, h5, by omega, ?_⟩⟩, fun e => h2 (by cases e; rfl), fun i e => by cases e; simp, by simp⟩
      have := List.prefix_iff_eq_take.1 hpre
      rw [Nat.mul_one]; exact this.symm
  obtain ⟨hown, hne, hin, hbF⟩ := hown
  refine (Tryd.write_exact w0.heap.size b p v bs s w hp hb hbk hown hne hlen hw.bel.size).mono ?_
  rintro e w' ⟨rfl, v', hbk', hown', hne', hplace, hrest, hbel, hsize⟩
  have hlt : b < w.heap.size := hw.lt hr
  -- the new view
  obtain ⟨hl', hv'⟩ := hown'
  have key : ∀ (σ' : Vw) (F' : List Nat), σ' b = some ⟨Tryd.laysB_ren.t 72, [.pointer (some ⟨b, 0, none⟩), v'], 2, (0, 0)⟩ → BV w0 σ' b F' (bs ++ Lib.strCells s) →
      (∀ i, i ≠ b → v'.ownBlock ≠ some i → σ' i = if v.ownBlock = some i then none else σ i) → (∀ g, v'.ownBlock = some g → ∃ cap cur, σ' g = some ⟨Tryd.laysB_ren.t 5, bs ++ Lib.strCells s, cap, (0, 0)⟩ ∧ w0.heap.size ≤ g ∧ w'.heap[g]? = some (.cells cur (Tryd.laysB_ren.t 5) (0, 0)) ∧ cur.size = cap ∧ (bs ++ Lib.strCells s) <+: cur.toList) →
      (∀ i, i ∈ F' → i = b ∨ v'.ownBlock = some i) → ∃ v σ', (Ending.returned (.tuple #[.int .i64 s.size, .nilIface])) = .returned v ∧ R v σ' ∧ Aft w0 σ w σ' w' := by
    intro σ' F' hσb hBV hσo hσg hF'
    have hgF : ∀ i, v'.ownBlock = some i → i ∈ F ∨ w.heap.size ≤ i := fun i hi => by
      rcases hplace with h | h
      · exact .inl (hin i (by rw [← h]; exact hi))
      · exact .inr (h i hi)
    have hnone : ∀ i, w.heap.size ≤ i → σ i = none := fun i hi => by
      cases hs : σ i with
      | none => rfl
      | some r => exact absurd (hw.lt hs) (by omega)
    refine ⟨_, σ', rfl, hR F' σ' (fun i r hi hiF => ?_) hBV (fun i hi => ?_), ⟨⟨hw.bel.trans hbel, fun i r hi => ?_⟩, hsize, fun i hi hn => ?_, fun i r hi => ?_⟩⟩
    · have h1 : i ≠ b := fun e => hiF (e ▸ hbF)
      have h2 : v'.ownBlock ≠ some i := fun e => by
        rcases hgF i e with h | h
        · exact hiF h
        · rw [hnone i h] at hi; cases hi
      rw [hσo i h1 h2, if_neg (fun e => hiF (hin i e))]; exact hi
    · rcases hF' i hi with rfl | h
      · exact .inl hbF
      · rcases hgF i h with h | h
        · exact .inl h
        · exact .inr (hnone i h)
    · by_cases h1 : i = b
      · subst h1
        rw [hσb] at hi; cases hi
        exact ⟨hb, _, hbk', by simp, by simp, by simp⟩
      · by_cases h2 : v'.ownBlock = some i
        · obtain ⟨cap, cur, q1, q2, q3, q4, q5⟩ := hσg i h2
          rw [q1] at hi; cases hi
          exact ⟨q2, cur, q3, q5, q4, by simp⟩
        · rw [hσo i h1 h2] at hi
          split at hi
          · cases hi
          · rename_i h3
            obtain ⟨g1, cur, g2, g3⟩ := hw.row i r hi
            exact ⟨g1, cur, (hrest i (hw.lt hi) h1 h3).trans g2, g3⟩
    · have h1 : i ≠ b := fun e => by rw [e, hr] at hn; cases hn
      refine hrest i hi h1 fun e => ?_
      rcases hv with ⟨rfl, _⟩ | ⟨q, cap, rfl, _, _, h3, _⟩
      · cases e
      · cases e; rw [h3] at hn; cases hn
    · by_cases h1 : i = b
      · exact .inl (by rw [h1, hr]; simp)
      · by_cases h2 : v'.ownBlock = some i
        · rcases hgF i h2 with h | h
          · refine .inl ?_
            rcases hv with ⟨rfl, _, rfl⟩ | ⟨q, cap, rfl, _, _, h3, _, _, rfl⟩
            · exact absurd (List.mem_singleton.1 h) h1
            · simp at h
              rcases h with h | h
              · exact absurd h h1
              · rw [h, h3]; simp
          · exact .inr h
        · rw [hσo i h1 h2] at hi
          split at hi
          · cases hi
          · exact .inl (by rw [hi]; simp)
  rcases hv' with ⟨rfl, hn⟩ | ⟨g, cap, cur, rfl, q1, q2, q3, q4, q5, q6⟩
  · have hz : bs ++ Lib.strCells s = [] := List.eq_nil_of_length_eq_zero (by omega)
    refine key (fun i => if i = b then some ⟨Tryd.laysB_ren.t 72, [.pointer (some ⟨b, 0, none⟩), .slice none 0 0], 2, (0, 0)⟩ else if v.ownBlock = some i then none else σ i) [b] (by simp) ?_ (fun i h1 _ => by simp [h1]) nofun (fun i hi => .inl (List.mem_singleton.1 hi))
    exact ⟨hb, _, _, .inr rfl, by simp, .inl ⟨rfl, hz, rfl⟩⟩
  · have hgb : g ≠ b := fun e => hne' (by rw [e]; rfl)
    have hpre : (bs ++ Lib.strCells s) <+: cur.toList := by
      rw [Nat.mul_one] at q6
      rw [← q6]; exact List.take_prefix _ _
    refine key (fun i => if i = b then some ⟨Tryd.laysB_ren.t 72, [.pointer (some ⟨b, 0, none⟩), .slice (some ⟨g, 0, none⟩) (bs ++ Lib.strCells s).length cap], 2, (0, 0)⟩ else if g = i then some ⟨Tryd.laysB_ren.t 5, bs ++ Lib.strCells s, cap, (0, 0)⟩ else if v.ownBlock = some i then none else σ i) [b, g] (by simp) ?_ (fun i h1 h2 => ?_) (fun g' hg' => ?_) (fun i hi => ?_)
    · exact ⟨hb, _, _, .inr rfl, by simp, .inr ⟨g, cap, rfl, q1, hgb, by simp [hgb], q3, q4, rfl⟩⟩
    · have : ¬ g = i := fun e => h2 (by rw [e]; rfl)
      simp [h1, this]
    · have : g = g' := by cases hg'; rfl
      subst this
      exact ⟨cap, cur, by simp [hgb], q1, q2, by omega, hpre⟩
    · simp at hi
      rcases hi with h | h
      · exact .inl h
      · exact .inr (by rw [h]; rfl)
end
end Go.Proofs.YtlbpnfhhoalenaaDoor

/- strings.Builder: its text is taken. -/
set_option linter.unusedVariables false
set_option linter.unusedSimpArgs false
namespace Go.Proofs
open Go.Shelf Go.RowKit

set_option maxHeartbeats 4000000 in
set_option maxRecDepth 100000 in
theorem Tryd.string_exact (b g cap : Nat) (p : Value) (l : List UInt8) (cur : Array Value) (w : World) (h0 : l ≠ []) (hbk : w.heap[b]? = some (.cells #[p, .slice (some ⟨g, 0, none⟩) l.length cap] (Tryd.lays169_ren.t 72) (0, 0))) (hg : w.heap[g]? = some (.cells cur (Tryd.lays169_ren.t 5) (0, 0)))
    (hnc : l.length ≤ cap) (hcm : cap ≤ maxLen) (hcs : cur.size = cap) (htake : cur.toList.take l.length = Lib.byteCells l) :
    Calls Tryd.prog (Tryd.lays169_ren.f 169) #[.pointer (some ⟨b, 0, none⟩)] w fun e w' => e = .returned (.string ⟨l.toArray⟩) ∧ w' = w.drew.freeze ⟨g, 0, none⟩ l.length := by
  have L := Tryd.lays169
  have X := Tryd.Builder_Extra_169
  have hl0 : l.length ≠ 0 := by simpa using h0
  have c1 : w.drew.cell? ⟨b, 1, none⟩ = some (.slice (some ⟨g, 0, none⟩) l.length cap) := by
    have : w.drew.heap[b]? = some (.cells #[p, .slice (some ⟨g, 0, none⟩) l.length cap] (Tryd.lays169_ren.t 72) (0, 0)) := hbk
    rw [Lib.cell_of_heap this]; rfl
  have hSD : (Builtin.unsafeSliceData_ #[(Tryd.lays169_ren.t 37)] (Tryd.lays169_ren.t 127) #[.slice (some ⟨g, 0, none⟩) l.length cap]).run Tryd.prog w.drew = .ok (.pointer (some ⟨g, 0, none⟩)) w.drew :=
    Lib.run_unsafeSliceData_row _ _ _ _ _ _ (by omega)
  have hown : w.ownsRow 0 (Tryd.lays169_ren.t 5) 1 (.slice (some ⟨g, 0, none⟩) l.length cap) l.length (Lib.byteCells l) := ⟨by simp [Lib.byteCells], .inr ⟨g, cap, cur, rfl, Nat.zero_le _, hg, hnc, hcm, by omega, by rw [Nat.mul_one]; exact htake⟩⟩
  have hUS : (Builtin.unsafeString_ #[(Tryd.lays169_ren.t 127), (Tryd.lays169_ren.t 3)] (Tryd.lays169_ren.t 9) #[.pointer (some ⟨g, 0, none⟩), .int .i64 l.length]).run Tryd.prog w.drew = .ok (.string ⟨l.toArray⟩) (w.drew.freeze ⟨g, 0, none⟩ l.length) := by
    refine Lib.run_unsafeString_row w.drew (Tryd.lays169_ren.t 127) (Tryd.lays169_ren.t 3) (Tryd.lays169_ren.t 9) (Tryd.lays169_ren.t 5) L.t127 X.cellsByte g cur.size (by have hg' : w.drew.heap[g]? = some (.cells cur (Tryd.lays169_ren.t 5) (0, 0)) := hg; simp [World.shape?, hg']) l h0 (by omega) (by unfold maxLen at hcm; omega) ?_
    intro j x hx
    have := hown.cells (g := g) rfl j (.int .u8 x.toNat) (by simp [Lib.byteCells, hx])
    exact this
  have mixed := L.mixed
  have t72 := L.t72; have a72 := L.a72; have z72 := L.z72; have v72 := L.v72; have u72 := run_underlying L.t72
  have t70 := L.t70; have a70 := L.a70; have z70 := L.z70; have v70 := L.v70; have u70 := run_underlying L.t70
  have t37 := L.t37; have a37 := L.a37; have z37 := L.z37; have v37 := L.v37; have u37 := run_underlying L.t37
  have t127 := L.t127; have a127 := L.a127; have z127 := L.z127; have v127 := L.v127; have u127 := run_underlying L.t127
  have t3 := L.t3; have a3 := L.a3; have z3 := L.z3; have v3 := L.v3; have u3 := run_underlying L.t3
  have t9 := L.t9; have a9 := L.a9; have z9 := L.z9; have v9 := L.v9; have u9 := run_underlying L.t9
  have t5 := X.t5; have a5 := X.a5; have z5 := X.z5; have v5 := X.v5; have u5 := run_underlying X.t5
  go_enter L.f169, Body.n169_ntmps Tryd.lays169_ren
  go_wp2
  go_region_o
  all_goals (go_wp2; go_ret; exact ⟨rfl, rfl⟩)
end Go.Proofs
namespace Go.Proofs.YtlbpnfhhoalenaaDoor
open Go Go.Av Go.RowKit

section
variable {w0 : World} {σ : Vw}

theorem heap_two {w : World} {b T : Nat} {p v : Value} (hw : Sat w0 σ w) (hr : σ b = some ⟨T, [p, v], 2, (0, 0)⟩) : w.heap[b]? = some (.cells #[p, v] T (0, 0)) := by
  obtain ⟨_, cur, hc, hpre, hcap, _⟩ := hw.row b _ hr
  simp only at hc hpre hcap
  have hl : cur.toList = [p, v] := by
    obtain ⟨t, ht⟩ := hpre
    have := congrArg List.length ht
    simp only [List.length_append, List.length_cons, List.length_nil, Array.length_toList, hcap] at this
    have ht0 : t = [] := List.eq_nil_of_length_eq_zero (by omega)
    rw [ht0] at ht
    simpa using ht.symm
  have hc2 : cur = #[p, v] := by apply Array.ext'; simpa using hl
  rw [← hc2]; exact hc

theorem string_view {b : Nat} {F : List Nat} {l : List UInt8} (h : BV w0 σ b F (Lib.byteCells l)) {R : Value → Vw → Prop} (hR : ∀ σ', KeepsBut F σ σ' → R (.string ⟨l.toArray⟩) σ') :
    AC Tryd.prog w0 n_p_strings_Builder_String [.pointer (some ⟨b, 0, none⟩)] σ R := by
  refine ⟨is_p_strings_Builder_String, fun w hw => ?_⟩
  obtain ⟨hb, p, v, hp, hr, hv⟩ := h
  have hbk := heap_two hw hr
  have full : ∀ {w' : World}, Below w.heap.size w w' → R (.string ⟨l.toArray⟩) σ → ∃ u σ', (Ending.returned (.string ⟨l.toArray⟩)) = .returned u ∧ R u σ' ∧ Aft w0 σ w σ' w' := fun k hRσ => ⟨_, σ, rfl, hRσ, Aft.below hw k⟩
  have hRσ := hR σ (KeepsBut.refl _ _)
  cases l with
  | nil =>
    rcases hv with ⟨rfl, _, rfl⟩ | ⟨q, cap, rfl, h1, h2, h3, h4, h5, rfl⟩
    · refine (Any.Builder_String_nil Tryd.lays169 Tryd.Builder_Extra_169 w.heap.size b p w hbk).mono ?_
      rintro e w' ⟨rfl, k⟩
      exact full k hRσ
    · obtain ⟨_, cur, hc, hpre, hcap, _⟩ := hw.row q _ h3
      simp only at hc hpre hcap
      by_cases hc0 : cap = 0
      · subst hc0
        refine (Any.Builder_String_noroom Tryd.lays169 Tryd.Builder_Extra_169 w.heap.size b q p cur w (Nat.le_refl _) hbk hc).mono ?_
        rintro e w' ⟨rfl, k⟩
        exact full k hRσ
      · refine (Any.Builder_String_room Tryd.lays169 Tryd.Builder_Extra_169 w.heap.size b q cap p w hc0 hbk).mono ?_
        rintro e w' ⟨rfl, k⟩
        exact full k hRσ
  | cons x l =>
    rcases hv with ⟨_, h0, _⟩ | ⟨q, cap, rfl, h1, h2, h3, h4, h5, rfl⟩
    · simp [Lib.byteCells] at h0
    obtain ⟨_, cur, hc, hpre, hcap, _⟩ := hw.row q _ h3
    simp only at hc hpre hcap
    have hlen : (Lib.byteCells (x :: l)).length = (x :: l).length := by simp [Lib.byteCells]
    rw [hlen] at hbk h4
    refine (Tryd.string_exact b q cap p (x :: l) cur w (by simp) hbk hc h4 h5 (by omega) ?_).mono ?_
    · have := List.prefix_iff_eq_take.1 hpre
      rw [hlen] at this; exact this.symm
    rintro e w' ⟨rfl, rfl⟩
    have hk : ∀ k, k ≠ q → (w.drew.freeze ⟨q, 0, none⟩ (x :: l).length).heap[k]? = w.heap[k]? := fun k hk => by
      have hk' : ¬ q = k := fun e => hk e.symm
      have e1 : w.drew.heap = w.heap := rfl
      simp [World.freeze, Array.getElem?_modify, hk', e1]
    have hs : (w.drew.freeze ⟨q, 0, none⟩ (x :: l).length).heap.size = w.heap.size := by
      have e1 : w.drew.heap = w.heap := rfl
      simp [World.freeze, e1]
    have hbl : Below w0.heap.size w (w.drew.freeze ⟨q, 0, none⟩ (x :: l).length) := Lib.below_freeze (Below.drew (Below.refl _ _)) (p := ⟨q, 0, none⟩) h1 _
    refine ⟨_, fun i => if i = q then none else σ i, rfl, hR _ (fun i r hi hF => ?_), ⟨⟨hw.bel.trans hbl, fun i r hi => ?_⟩, by rw [hs]; exact Nat.le_refl _, fun i hi hn => ?_, fun i r hi => ?_⟩⟩
    · have : i ≠ q := fun e => hF (by simp [e])
      simp only [this, if_false]; exact hi
    · by_cases e : i = q
      · simp [e] at hi
      · simp only [e, if_false] at hi
        obtain ⟨g1, cur', g2, g3⟩ := hw.row i r hi
        exact ⟨g1, cur', (hk i e).trans g2, g3⟩
    · exact hk i fun e => by rw [e, h3] at hn; cases hn
    · by_cases e : i = q
      · simp [e] at hi
      · simp only [e, if_false] at hi
        exact .inl (by rw [hi]; simp)
end
end Go.Proofs.YtlbpnfhhoalenaaDoor

/- 'TreeShow': each part of a tree is written into a builder; the law. -/
set_option linter.unusedVariables false
set_option linter.unusedSimpArgs false
namespace Go.Proofs.YtlbpnfhhoalenaaDoor
open Go Go.Av Go.RowKit

theorem none_at {σ s : Vw} (k : Keeps σ s) {i : Nat} (h : s i = none) : σ i = none := by
  cases hs : σ i with
  | none => rfl
  | some r => rw [k i r hs] at h; cases h
theorem strCells_app (a b : ByteArray) : Lib.strCells (a ++ b) = Lib.strCells a ++ Lib.strCells b := by
  have e : ∀ s : ByteArray, Lib.strCells s = (bl s).map fun b => Value.int .u8 b.toNat := fun _ => rfl
  rw [e, e, e, bl_append, List.map_append]
theorem cat_assoc (a b c : ByteArray) : a ++ b ++ c = a ++ (b ++ c) := by apply bl_inj; simp [bl_append]

section
variable {w0 : World} {σ : Vw}

theorem nil_path : OStrs w0 σ [] (.slice none 0 0) [] := ⟨by simp, by simp, .inl ⟨rfl, rfl, rfl⟩⟩
theorem impl_below {v : Value} {ps : List ByteArray} {y : ByteArray} (h : RSl 1 RS (Av.get w0 σ) v ps) (hl : ps.length ≤ 1000000) (hy : y.size ≤ 1000000) {R : Value → Vw → Prop}
    (hR : ∀ v' F σ', Keeps σ σ' → OStrs w0 σ' F v' (ps ++ [y]) → (∀ b, b ∈ F → σ b = none) → R v' σ') : AC Tryd.prog w0 n_impl_below [v, .string y] σ R := by
  refine ac_impl_below ?_
  unfold vc_impl_below
  intro b h1 h2
  have kb : Keeps σ (σ.put b ⟨t_string, [], 0, (0, 0)⟩) := Keeps.put h2
  have hb0 : ∀ i, i ∈ [b] → σ i = none := fun i hi => by rw [List.mem_singleton.1 hi]; exact h2
  refine (OAcc.new (w0 := w0) (σ := σ) (ety := t_string) (n := 1) (O := OStr) h1).all (ok_str w0) h kb.le (fun es y hy => ⟨rfl, hy⟩) (by simp; omega) (by omega) fun v1 F1 s1 k1 o1 f1 => ?_
  rw [List.nil_append] at o1
  have K1 := k1.old kb hb0
  have hF1 := fresh_in kb hb0 f1
  rw [pVal1 rfl]
  refine o1.one (ok_str w0) (f := []) (y := y) ⟨rfl, rfl, by omega⟩ (by simp) (by omega) (by omega) fun v2 F2 s2 k2 o2 f2 => ?_
  refine hR v2 F2 s2 (k2.old K1 hF1) o2.osl (fresh_in K1 hF1 fun j hj => ?_)
  rcases f2 j hj with h | h | h
  · exact .inl h
  · cases h
  · exact .inr h

/-- The box of the builder's address. -/
def boxR (b : Nat) (r : Row) : Prop := r.cells = [.pointer (some ⟨b, 0, none⟩)]
theorem box_load {s : Vw} {n2 b : Nat} {r : Row} (hn : w0.heap.size ≤ n2) (hr : s n2 = some r) (hb : boxR b r) {K : (Nat → Value) → Prop} (hK : ∀ g : Nat → Value, g 0 = .pointer (some ⟨b, 0, none⟩) → K g) : pLoad w0 1 (.pointer (some ⟨n2, 0, none⟩)) s K := by
  refine ⟨⟨n2, 0, none⟩, fun _ => .pointer (some ⟨b, 0, none⟩), rfl, fun i hi => ?_, hK _ rfl⟩
  have e : i = 0 := by omega
  subst e
  rw [addr_add, get_row hn hr, hb]; rfl

theorem show_one (tab : Tab w0) {n : Nat} {σ0 s : Vw} {b n2 : Nat} {r2 : Row} {F : List Nat} {bs : List Value} {ps : List ByteArray} {v : Value} {es : List Value} {x : Tr} {R : Value → Vw → Prop}
    (h : RT n (Av.get w0 σ0) es x) (hx : shortT n x) (k0 : Keeps σ0 s) (hB : BV w0 s b F bs) (hn2 : w0.heap.size ≤ n2) (hr2 : s n2 = some r2) (hbox : boxR b r2) (hv : RSl 1 RS (Av.get w0 s) v ps) (hps : ps.length + sumS ps ≤ 1000000)
    (hlen : bs.length + 2000000 ≤ 140737488355328)
    (hR : ∀ F' s', KeepsBut F s s' → BV w0 s' b F' (bs ++ Lib.strCells (lineT (pathT ps) x)) → (∀ i, i ∈ F' → i ∈ F ∨ s i = none) → R (.tuple ⟨[]⟩) s') :
    AC Tryd.prog w0 n_impl_Tree_show_c1 [v, .agg ⟨es⟩, .pointer (some ⟨n2, 0, none⟩)] s R := by
  obtain ⟨e0, e1, e2, e3, e4, rfl, _, hpv⟩ := RT.five h
  refine ac_impl_Tree_show_c1 ?_
  unfold vc_impl_Tree_show_c1
  rw [hpv]
  simp only [cellOf_agg, List.getD_cons_zero, List.getD_cons_succ]
  refine box_load hn2 hr2 hbox fun g hg => ?_
  refine impl_Tree_line tab (mono_rt n _ _ _ _ k0.le h) hx hv hps fun s1 k1 => ⟨k1.stay, ?_⟩
  rw [hg]
  have hls := line_size hx (pathT ps)
  have hpt := pathT_size ps
  have hB1 := hB.frame (k1.but_at fun i hi => (hB.dom i hi).2)
  refine write_view hB1 (by omega) fun F' s2 k2 hB2 hF2 => ?_
  refine hR F' s2 (fun i r hi hF => k2 i r (k1 i r hi) hF) hB2 fun i hi => ?_
  rcases hF2 i hi with h | h
  · exact .inl h
  · exact .inr (none_at k1 h)

set_option maxRecDepth 20000 in
theorem impl_each (tab : Tab w0) : ∀ (n : Nat) {σ0 s : Vw} {b n2 : Nat} {r2 : Row} {F P : List Nat} {bs : List Value} {ps : List ByteArray} {v : Value} {es : List Value} {x : Tr} {R : Value → Vw → Prop},
    RT n (Av.get w0 σ0) es x → shortT n x → cntT n x ≤ 100000 → Keeps σ0 s → (∀ i, i ∈ F → σ0 i = none) → BV w0 s b F bs → w0.heap.size ≤ n2 → s n2 = some r2 → boxR b r2 → n2 ∉ F → OStrs w0 s P v ps → (∀ i, i ∈ P → i ∉ F) → ps.length + sumS ps + 6 * n ≤ 1000000 →
    bs.length + 2000000 * cntT n x + 2000000 ≤ 140737488355328 →
    (∀ F' s', KeepsBut F s s' → BV w0 s' b F' (bs ++ Lib.strCells (lineT (pathT ps) x ++ belowT n (shN ps) x)) → (∀ i, i ∈ F' → i ∈ F ∨ s i = none) → R (.tuple ⟨[]⟩) s') →
    AC Tryd.prog w0 n_impl_Tree_each [.agg ⟨es⟩, v, .func (.func n_impl_Tree_show_c1) ⟨[]⟩ ⟨[.pointer (some ⟨n2, 0, none⟩)]⟩] s R := by
  intro n
  induction n with
  | zero => intro σ0 s b n2 r2 F P bs ps v es x R h; exact h.elim
  | succ n ih =>
    intro σ0 s b n2 r2 F P bs ps v es x R h hx hc k0 hF0 hB hn2 hr2 hbox hnF hP hPF hps hlen hR
    obtain ⟨d, m, t, ns, ks⟩ := x
    have h0 := h
    have hx0 := hx
    obtain ⟨u, w, rfl, h2, h3, h4, h5⟩ := h
    obtain ⟨hm, ht, hl, hns, hks⟩ := hx
    have hcnt : cntT (n + 1) (.mk d m t ns ks) = ks.length + sumBy (cntT n) ks := rfl
    refine ac_impl_Tree_each ?_
    unfold vc_impl_Tree_each
    rw [pVal_5 rfl rfl rfl h4.one h5.one]
    simp only [cellOf_agg, List.getD_cons_zero, List.getD_cons_succ]
    refine ⟨n_impl_Tree_show_c1, [], [.pointer (some ⟨n2, 0, none⟩)], rfl, ?_⟩
    have hl2 : bs.length + 2000000 ≤ 140737488355328 := by
      generalize cntT (n + 1) (.mk d m t ns ks) = cc at hlen
      omega
    have hps2 : ps.length + sumS ps ≤ 1000000 := by omega
    refine show_one tab h0 hx0 k0 hB hn2 hr2 hbox (hP.rel (ok_str w0)) hps2 hl2 fun F1 s1 k1 hB1 hF1 => ?_
    rw [h4.len]
    have hls := line_size hx0 (pathT ps)
    have hpt := pathT_size ps
    have hF1σ : ∀ i, i ∈ F1 → σ0 i = none := fun i hi => by
      rcases hF1 i hi with h | h
      · exact hF0 i h
      · exact none_at k0 h
    have r1 : s1 n2 = some r2 := k1 n2 r2 hr2 hnF
    have n1 : n2 ∉ F1 := fun h => by
      rcases hF1 n2 h with h | h
      · exact hnF h
      · rw [hr2] at h; cases h
    have hP1 := hP.frame (ok_str w0) (k1.at (fun i hi => (hP.dom (ok_str w0) i hi).2) hPF)
    have hPF1 : ∀ i, i ∈ P → i ∉ F1 := fun i hi hi' => by
      rcases hF1 i hi' with h | h
      · exact hPF i hi h
      · exact (hP.dom (ok_str w0) i hi).2 h
    have hl4 := h4.le
    rw [belowT_step] at hR
    refine loop_rule (m := ns.length) (fun c l st => ∃ (j : Nat) (F' : List Nat), c + j = ns.length ∧ KeepsBut F s st ∧ Keeps σ0 st ∧ (∀ i, i ∈ F' → i ∈ F ∨ s i = none) ∧
        BV w0 st b F' (bs ++ Lib.strCells (lineT (pathT ps) (.mk d m t ns ks) ++ catB (((ns.zip ks).take j).map fun y => lineT (kidP (shN ps) y.1) y.2 ++ belowT n (kidP (shN ps) y.1) y.2))) ∧ OStrs w0 st P v ps ∧ (∀ i, i ∈ P → i ∉ F') ∧
        l = [v, .func (.func n_impl_Tree_show_c1) ⟨[]⟩ ⟨[.pointer (some ⟨n2, 0, none⟩)]⟩, u, .int .i64 (ns.length : Nat), .int .i64 (j : Nat), .bool d, .int .i64 m, .string t, u, w]) ?_
      ⟨0, F1, by omega, k1, k1.old k0 hF0, hF1, (by rw [List.take_zero, List.map_nil, catB, show lineT (pathT ps) (.mk d m t ns ks) ++ (⟨#[]⟩ : ByteArray) = lineT (pathT ps) (.mk d m t ns ks) from by apply bl_inj; simp [bl_append]]; exact hB1), hP1, hPF1, rfl⟩
    rintro c l st L ⟨j, F', hcj, kst, k0st, hF', hB', hP', hPF', rfl⟩ hL
    simp only [vget, List.getD_cons_zero, List.getD_cons_succ]
    rw [pBin_lt, pIf_d]
    refine ⟨fun hi => ?_, fun hi => ?_⟩
    · have hx1 := List.getElem?_eq_getElem (show j < ns.length by omega)
      have hx2 := List.getElem?_eq_getElem (show j < ks.length by omega)
      generalize hxi : ns[j]'(by omega) = y1 at hx1
      generalize hxk : ks[j]'(by omega) = y2 at hx2
      have h5y := hns _ (List.mem_of_getElem? hx1)
      have hky := hks _ (List.mem_of_getElem? hx2)
      have hz : (ns.zip ks)[j]? = some (y1, y2) := by rw [List.getElem?_zip_eq_some]; exact ⟨hx1, hx2⟩
      have hcy := sumBy_mem (f := cntT n) (List.mem_of_getElem? hx2)
      refine RSl.at1 (h4.mono k0st.le fun _ _ h => h) hx1 fun g hg hgs => ?_
      have h5b : RSl 5 (RB (RT n) (Av.get w0 σ0)) (Av.get w0 st) w ks := by
        obtain ⟨A, cap, e1, e2, e3⟩ := h5
        refine ⟨A, cap, e1, e2, fun j x hj => ?_⟩
        obtain ⟨a, es, q1, q2, q3, q4⟩ := e3 j x hj
        refine ⟨a, es, q1, q2, fun i hi => ?_, q4⟩
        have := q3 i hi
        rw [List.getElem?_eq_getElem (by omega)] at this ⊢
        exact k0st.le _ _ this
      refine RSl.atp h5b hx2 fun p2 g2 hg2 => ?_
      rw [hg]
      refine impl_below (hP'.rel (ok_str w0)) (by omega) (by omega) fun pv PF s2 k2 op fp => ⟨k2.stay, ?_⟩
      have hB2 := hB'.frame (k2.but_at fun i hi => (hB'.dom i hi).2)
      have hP2 := hP'.frame (ok_str w0) (k2.but_at fun i hi => (hP'.dom (ok_str w0) i hi).2)
      have hr2' : s2 n2 = some r2 := k2 n2 r2 (kst n2 r2 hr2 hnF)
      have hn2' : n2 ∉ F' := fun h => by
        rcases hF' n2 h with h | h
        · exact hnF h
        · rw [hr2] at h; cases h
      have hF'σ : ∀ i, i ∈ F' → st i ≠ none := fun i hi => (hB'.dom i hi).2
      have hsum : sumS (ps ++ [y1]) = sumS ps + y1.size := by
        have e : ∀ l : List ByteArray, sumS (l ++ [y1]) = sumS l + y1.size := by
          intro l
          induction l with
          | nil => simp [sumS]
          | cons a r ih => simp only [List.cons_append, sumS, ih]; omega
        exact e ps
      have hkp : kidP (shN ps) y1 = shN (ps ++ [y1]) := by rw [shN_snoc]; rfl
      have hkt : pathT (ps ++ [y1]) = shN (ps ++ [y1]) := by rw [pathT, if_neg (by simp)]
      have hpz : (pathT ps).size ≤ 1 + ps.length + sumS ps := hpt
      have hbb : (Lib.strCells (lineT (pathT ps) (.mk d m t ns ks) ++ catB (((ns.zip ks).take j).map fun y => lineT (kidP (shN ps) y.1) y.2 ++ belowT n (kidP (shN ps) y.1) y.2))).length + 2000000 * cntT n y2 ≤ 2000000 * cntT (n + 1) (.mk d m t ns ks) := by
        have hsh := shN_size ps
        have hone : ∀ (y : ByteArray × Tr), y ∈ ns.zip ks → (lineT (kidP (shN ps) y.1) y.2 ++ belowT n (kidP (shN ps) y.1) y.2).size ≤ 1000060 + 1000060 * cntT n y.2 := fun y hy => by
          obtain ⟨z1, z2⟩ := y
          have hmz := List.of_mem_zip hy
          have q5 := hns _ hmz.1
          have qk := hks _ hmz.2
          have hpk : (kidP (shN ps) z1).size = (shN ps).size + 1 + z1.size := by unfold kidP; rw [ByteArray.size_append, ByteArray.size_append]; rfl
          have q6 := below_size n z2 (kidP (shN ps) z1) qk (by omega)
          have q7 := line_size qk (kidP (shN ps) z1)
          rw [ByteArray.size_append]
          simp only
          omega
        have hc1 : (catB (((ns.zip ks).take j).map fun y => lineT (kidP (shN ps) y.1) y.2 ++ belowT n (kidP (shN ps) y.1) y.2)).size ≤ sumBy (fun y : ByteArray × Tr => 1000060 + 1000060 * cntT n y.2) ((ns.zip ks).take j) := catB_size fun y hy => hone y (List.mem_of_mem_take hy)
        have ht1 := sumBy_take (f := fun y : ByteArray × Tr => 1000060 + 1000060 * cntT n y.2) hz
        have ht2 := sumBy_le (f := fun y : ByteArray × Tr => 1000060 + 1000060 * cntT n y.2) (xs := ns.zip ks) (j + 1)
        have ht3 := sumBy_zip (f := cntT n) (c := 1000060) (ns := ns) (ks := ks)
        rw [Lib.strCells_length, ByteArray.size_append]
        simp only at ht1
        omega
      refine ih (P := PF) hg2 hky (by omega) (k0st.trans k2) (fun i hi => ?_) hB2 hn2 hr2' hbox hn2' op (fun i hi hi' => hF'σ i hi' (fp i hi)) (by rw [List.length_append, hsum]; simp only [List.length_cons, List.length_nil]; omega) (by rw [List.length_append]; omega) fun F3 s3 k3 hB3 hF3 => ?_
      · rcases hF' i hi with h | h
        · exact hF0 i h
        · exact none_at k0 h
      rw [pBin_add (by omega)]
      have hn : ∀ i, i ∈ F3 → i ∈ F ∨ s i = none := fun i hi => by
        rcases hF3 i hi with h | h
        · exact hF' i h
        · have hst : st i = none := none_at k2 h
          by_cases hiF : i ∈ F
          · exact .inl hiF
          · refine .inr ?_
            cases hs : s i with
            | none => rfl
            | some r => rw [kst i r hs hiF] at hst; cases hst
      refine hL _ _ (c - 1) (by omega) ⟨j + 1, F3, by omega, fun i r hi hiF => ?_, fun i r hi => ?_, hn, ?_, hP2.frame (ok_str w0) (k3.at (fun i hi => (hP2.dom (ok_str w0) i hi).2) hPF'), fun i hi hi' => ?_, by simp⟩
      · have h1 := k2 i r (kst i r hi hiF)
        exact k3 i r h1 fun h => by
          rcases hF' i h with h | h
          · exact hiF h
          · rw [hi] at h; cases h
      · have h1 := k2 i r (k0st i r hi)
        refine k3 i r h1 fun h => ?_
        rcases hF' i h with h | h
        · rw [hF0 i h] at hi; cases hi
        · rw [k0 i r hi] at h; cases h
      · rw [List.take_add_one, hz, Option.toList_some, List.map_append, List.map_cons, List.map_nil, catB_snoc, hkp, ← cat_assoc, strCells_app, ← List.append_assoc]
        rw [hkt] at hB3
        exact hB3
      · rcases hF3 i hi' with h | h
        · exact hPF' i hi h
        · exact (hP2.dom (ok_str w0) i hi).2 h
    · have e : j = ns.length := by omega
      subst e
      rw [List.take_of_length_le (by rw [List.length_zip]; omega)] at hB'
      exact hR F' st kst hB' hF'

theorem sound_down : ∀ (m n : Nat) (x : Tr) (k : Int), soundB n x k = true → 5 ≤ k + (m : Int) → (∀ rd es, RT n rd es x → RT m rd es x) ∧ shortT m x ∧ cntT m x ≤ cntT n x
  | m, 0, x, k, h, _ => by simp [soundB] at h
  | 0, n + 1, .mk d mo t ns ks, k, h, hk => by
    simp only [soundB, Bool.and_eq_true, decide_eq_true_eq] at h
    exact absurd h.2.1 (by omega)
  | m + 1, n + 1, .mk d mo t ns ks, k, h, hk => by
    have hs := sound_short (n + 1) _ k h
    simp only [soundB, Bool.and_eq_true, decide_eq_true_eq] at h
    have ih : ∀ y, y ∈ ks → (∀ rd es, RT n rd es y → RT m rd es y) ∧ shortT m y ∧ cntT m y ≤ cntT n y := fun y hy => by
      obtain ⟨j, hj⟩ := List.getElem?_of_mem hy
      exact sound_down m n y (k + 1) (allB_iff.1 h.2.2 j y hj) (by omega)
    refine ⟨fun rd es hr => ?_, ⟨hs.1, hs.2.1, hs.2.2.1, hs.2.2.2.1, fun y hy => (ih y hy).2.1⟩, ?_⟩
    · obtain ⟨u, w, h1, h2, h3, h4, A, cap, e1, e2, e3⟩ := hr
      refine ⟨u, w, h1, h2, h3, h4, A, cap, e1, e2, fun j y hj => ?_⟩
      obtain ⟨a, es', q1, q2, q3, q4⟩ := e3 j y hj
      exact ⟨a, es', q1, q2, q3, (ih y (List.mem_of_getElem? hj)).1 _ _ q4⟩
    · have := sumBy_mono (f := cntT m) (g := cntT n) (xs := ks) fun y hy => (ih y hy).2.2
      show ks.length + sumBy (cntT m) ks ≤ ks.length + sumBy (cntT n) ks
      omega
noncomputable def showX (n : Nat) (x : Tr) : ByteArray := if treeOk n x = true then lineT ⟨#[47]⟩ x ++ belowT 5 ⟨#[]⟩ x else ⟨#[]⟩
theorem ok_parts {n : Nat} {x : Tr} (h : treeOk n x = true) : (∀ rd es, RT n rd es x → RT 5 rd es x) ∧ shortT 5 x ∧ cntT 5 x ≤ 30 := by
  simp only [treeOk, Bool.and_eq_true, decide_eq_true_eq] at h
  obtain ⟨h1, h2, h3⟩ := sound_down 5 n x 0 h.2.1 (by omega)
  exact ⟨h1, h2, by omega⟩

theorem impl_Tree_show (tab : Tab w0) {n : Nat} {es : List Value} {x : Tr} (h : RT n (Av.get w0 σ) es x) (hn : n ≤ 100000) (hx : shortT n x) (hc : cntT n x ≤ 100000) {R : Value → Vw → Prop} (hR : ∀ σ', Keeps σ σ' → R (.string (lineT ⟨#[47]⟩ x ++ belowT n ⟨#[]⟩ x)) σ') : AC Tryd.prog w0 n_impl_Tree_show [.agg ⟨es⟩] σ R := by
  have h0 := h
  obtain ⟨e0, e1, e2, e3, e4, rfl, _, hpv⟩ := RT.five h
  refine ac_impl_Tree_show ?_
  unfold vc_impl_Tree_show
  rw [hpv, pVal_2 rfl rfl]
  simp only [cellOf_agg, List.getD_cons_zero, List.getD_cons_succ]
  intro b hb1 hb2
  have kb : Keeps σ (σ.put b ⟨Tryd.laysB_ren.t 72, [.pointer none, .slice none 0 0], 2, (0, 0)⟩) := Keeps.put hb2
  intro n2 hn1 hn2
  refine elem_store (A := []) (C := []) (x := .pointer none) put_at rfl rfl rfl ?_
  simp only [List.nil_append, List.append_nil]
  rw [put_put]
  have hnb : n2 ≠ b := fun e => by rw [e] at hn2; simp [Vw.put] at hn2
  generalize hs4 : Vw.put _ n2 _ = s4
  have kb4 : Keeps (σ.put b ⟨Tryd.laysB_ren.t 72, [.pointer none, .slice none 0 0], 2, (0, 0)⟩) s4 := by rw [← hs4]; exact Keeps.put hn2
  have hbox : ∃ r2, s4 n2 = some r2 ∧ boxR b r2 := by rw [← hs4]; exact ⟨_, put_at, rfl⟩
  clear hs4
  obtain ⟨r2, hr2, hbox⟩ := hbox
  have hB := (BV.new (w0 := w0) (σ := σ) hb1).frame (σ' := s4) (kb4.but_at fun i hi => ((BV.new (w0 := w0) (σ := σ) hb1).dom i hi).2)
  refine impl_each tab n (P := []) (ps := []) h0 hx hc (kb.trans kb4) (fun i hi => by rw [List.mem_singleton.1 hi]; exact hb2) hB hn1 hr2 hbox (fun h => hnb (List.mem_singleton.1 h)) nil_path (by simp) (by simp only [List.length_nil, sumS]; omega) (by simp only [List.length_nil]; omega) fun F' s' k' hB' hF' => ?_
  have hr2' : s' n2 = some r2 := k' n2 r2 hr2 fun h => hnb (List.mem_singleton.1 h)
  refine box_load hn1 hr2' hbox fun g hg => ?_
  rw [hg]
  have e : ([] : List Value) ++ Lib.strCells (lineT (pathT []) x ++ belowT n (shN []) x) = Lib.byteCells (bl (lineT ⟨#[47]⟩ x ++ belowT n ⟨#[]⟩ x)) := rfl
  rw [e] at hB'
  refine string_view hB' fun s2 k2 => ?_
  have e2 : (⟨(bl (lineT ⟨#[47]⟩ x ++ belowT n ⟨#[]⟩ x)).toArray⟩ : ByteArray) = lineT ⟨#[47]⟩ x ++ belowT n ⟨#[]⟩ x := ofL_bl _
  rw [e2]
  refine hR s2 fun i r hi => ?_
  have hib : i ≠ b := fun e => by rw [e, hb2] at hi; cases hi
  have h1 := k' i r ((kb.trans kb4) i r hi) fun h => hib (List.mem_singleton.1 h)
  refine k2 i r h1 fun h => ?_
  rcases hF' i h with h | h
  · exact hib (List.mem_singleton.1 h)
  · rw [(kb.trans kb4) i r hi] at h; cases h

theorem spec_TreeShow {n : Nat} {es : List Value} {x : Tr} (h : RT n (Av.get w0 σ) es x) (hb : cntT n x ≤ 1000000000000) {R : Value → Vw → Prop} (hR : ∀ σ', Keeps σ σ' → R (.string (showX n x)) σ') : AC Tryd.prog w0 n_spec_TreeShow [.agg ⟨es⟩] σ R := by
  have h0 := h
  obtain ⟨e0, e1, e2, e3, e4, rfl, _, hpv⟩ := RT.five h
  refine ac_spec_TreeShow ?_
  unfold vc_spec_TreeShow
  rw [hpv]
  simp only [cellOf_agg, List.getD_cons_zero, List.getD_cons_succ]
  refine spec_TreeOk h0 hb ?_
  rw [pUn_not, pIf_b]
  refine ⟨fun hno => ?_, fun hyes => ?_⟩
  · have := hR σ (Keeps.refl _)
    rw [showX, if_neg (by simp at hno; rw [hno]; simp)] at this; exact this
  have hok : treeOk n x = true := by simpa using hyes
  obtain ⟨hdn, hx, hc⟩ := ok_parts hok
  have a1 : (⟨#[47]⟩ : ByteArray).size = 1 := rfl
  have a0 : (⟨#[]⟩ : ByteArray).size = 0 := rfl
  have hls := line_size hx ⟨#[47]⟩
  have hbs := below_size 5 x ⟨#[]⟩ hx (by omega)
  have h5 := hdn _ _ h0
  refine spec_l1Line h5 hx (by omega) fun s1 k1 => ?_
  refine spec_l1Show 5 (mono_rt 5 _ _ _ _ k1.le h5) hx (by omega) (by omega) fun s2 k2 => ?_
  rw [pBin_cat (by omega)]
  have := hR s2 (k1.trans k2)
  rw [showX, if_pos hok] at this; exact this
theorem impl_TreeShow (tab : Tab w0) {n : Nat} {es : List Value} {x : Tr} (h : RT n (Av.get w0 σ) es x) (hb : cntT n x ≤ 1000000000000) {R : Value → Vw → Prop} (hR : ∀ σ', Keeps σ σ' → R (.string (showX n x)) σ') : AC Tryd.prog w0 n_impl_TreeShow [.agg ⟨es⟩] σ R := by
  have h0 := h
  obtain ⟨e0, e1, e2, e3, e4, rfl, _, hpv⟩ := RT.five h
  refine ac_impl_TreeShow ?_
  unfold vc_impl_TreeShow
  rw [hpv]
  simp only [cellOf_agg, List.getD_cons_zero, List.getD_cons_succ]
  refine impl_TreeOk h0 hb ?_
  rw [pUn_not, pIf_b]
  refine ⟨fun hno => ?_, fun hyes => ?_⟩
  · have := hR σ (Keeps.refl _)
    rw [showX, if_neg (by simp at hno; rw [hno]; simp)] at this; exact this
  have hok : treeOk n x = true := by simpa using hyes
  obtain ⟨hdn, hx, hc⟩ := ok_parts hok
  refine impl_Tree_show tab (hdn _ _ h0) (by omega) hx (by omega) fun s1 k1 => ?_
  have := hR s1 k1
  rw [showX, if_pos hok] at this; exact this

theorem law_TreeShow (tab : Tab w0) {n : Nat} {es : List Value} {x : Tr} (h : RT n (Av.get w0 σ) es x) {R : Value → Vw → Prop} (hR : ∀ σ', R (.bool true) σ') : AC Tryd.prog w0 n_laws_FnExactTreeShow [.agg ⟨es⟩] σ R := by
  have h0 := h
  obtain ⟨e0, e1, e2, e3, e4, rfl, _, hpv⟩ := RT.five h
  refine ac_laws_FnExactTreeShow ?_
  unfold vc_laws_FnExactTreeShow
  rw [hpv]
  simp only [cellOf_agg, List.getD_cons_zero, List.getD_cons_succ]
  refine szTree n h0 (by omega) ?_
  rw [pBin_lt, pIf_d]
  refine ⟨fun _ => hR _, fun hb => ?_⟩
  rw [Av.left_neg] at hb
  have hsz : szT n x ≤ 1048576 := by omega
  have hfit := fit_of n x (by omega)
  have hcnt : cntT n x ≤ 1000000000000 := Nat.le_trans (cnt_le n x) (by omega)
  have ok := ok_rt w0 n
  refine toTree n h0 hfit fun es1 F1 s1 k1 o1 f1 => ?_
  refine spec_TreeShow (ok.rel _ _ _ _ o1) hcnt fun s2 k2 => ?_
  have K2 := k1.trans k2
  refine toTree n (mono_rt n _ _ _ _ K2.le h0) hfit fun es2 F2 s3 k3 o2 f2 => ?_
  have r2 := ok.rel _ _ _ _ o2
  obtain ⟨a2, b2, c2, d2, e2, rfl, _, hp2⟩ := RT.five r2
  rw [hp2]
  simp only [cellOf_agg, List.getD_cons_zero, List.getD_cons_succ]
  refine impl_TreeShow tab r2 hcnt fun s4 k4 => ?_
  rw [pBin_sne, pIf_d]
  refine ⟨fun h => absurd rfl h, fun _ => ?_⟩
  have K4 := (K2.trans k3).trans k4
  refine toTree n (mono_rt n _ _ _ _ K4.le h0) hfit fun es3 F3 s5 k5 o3 f3 => ?_
  refine eqTree n (mono_rt n _ _ _ _ (k4.trans k5).le r2) (ok.rel _ _ _ _ o3) ?_
  rw [pUn_not, pIf_b]
  exact ⟨fun h => by simp at h, fun _ => hR _⟩
end
end Go.Proofs.YtlbpnfhhoalenaaDoor

/- 'TableId': the number of a tree's text, by either hand; the law. -/
set_option linter.unusedVariables false
set_option linter.unusedSimpArgs false
namespace Go.Proofs.YtlbpnfhhoalenaaDoor
open Go Go.Av Go.RowKit

def idL : List UInt8 → Nat → Nat
  | [], a => a
  | b :: r, a => idL r ((a * 131 + b.toNat) % 1000000007)
theorem idL_snoc : ∀ (l : List UInt8) (b : UInt8) (a : Nat), idL (l ++ [b]) a = (idL l a * 131 + b.toNat) % 1000000007
  | [], b, a => rfl
  | c :: l, b, a => by simp only [List.cons_append, idL]; exact idL_snoc l b _
theorem idL_lt : ∀ (l : List UInt8) (a : Nat), a < 1000000007 → idL l a < 1000000007
  | [], a, h => h
  | c :: l, a, h => idL_lt l _ (Nat.mod_lt _ (by omega))
def idB (s : ByteArray) : Nat := idL (bl s) 7

section
variable {w0 : World} {σ : Vw}

theorem spec_l31Id {s : ByteArray} (hs : s.size ≤ 1000000000000) {R : Value → Vw → Prop} (hR : R (.int .i64 (idB s : Nat)) σ) : AC Tryd.prog w0 n_spec_l31Id [.string s] σ R := by
  refine ac_spec_l31Id ?_
  unfold vc_spec_l31Id
  have hlen : (bl s).length = s.size := size_bl s
  refine loop_rule (m := s.size) (fun m l st => ∃ i : Nat, m + i = s.size ∧ st = σ ∧ l = [.string s, .int .i64 (idL ((bl s).take i) 7 : Nat), .int .i64 (i : Nat)]) ?_ ⟨0, by omega, rfl, rfl⟩
  rintro m l st L ⟨i, hm, rfl, rfl⟩ hL
  simp only [vget, List.getD_cons_zero, List.getD_cons_succ]
  rw [pLenS_s, pBin_lt, pIf_d]
  refine ⟨fun hi => ?_, fun hi => ?_⟩
  · have hi' : i < s.size := by omega
    have hget := bl_get s i hi'
    generalize hx : s[i]'hi' = x at hget
    have hx2 : x.toNat < 256 := x.toNat_lt
    have hid := idL_lt ((bl s).take i) 7 (by omega)
    rw [pBin_mul (by omega)]
    refine pIndexStr_s hi' ?_
    rw [hx, pConv_i64 (by omega), pBin_add (by omega), pBin_rem (by omega), pBin_add (by omega)]
    refine hL _ _ (m - 1) (by omega) ⟨i + 1, by omega, rfl, ?_⟩
    rw [List.take_add_one, hget, Option.toList_some, idL_snoc]; simp
  · have e : i = s.size := by omega
    subst e
    rw [List.take_of_length_le (by omega)]
    exact hR

theorem impl_Tree_id (tab : Tab w0) {n : Nat} {es : List Value} {x : Tr} (h : RT n (Av.get w0 σ) es x) (hn : n ≤ 100000) (hx : shortT n x) (hc : cntT n x ≤ 100000) {R : Value → Vw → Prop} (hR : ∀ σ', Keeps σ σ' → R (.int .i64 (idB (lineT ⟨#[47]⟩ x ++ belowT n ⟨#[]⟩ x) : Nat)) σ') : AC Tryd.prog w0 n_impl_Tree_id [.agg ⟨es⟩] σ R := by
  have h0 := h
  obtain ⟨e0, e1, e2, e3, e4, rfl, _, hpv⟩ := RT.five h
  have a1 : (⟨#[47]⟩ : ByteArray).size = 1 := rfl
  have a0 : (⟨#[]⟩ : ByteArray).size = 0 := rfl
  have hls := line_size hx ⟨#[47]⟩
  have hbs := below_size n x ⟨#[]⟩ hx (by omega)
  refine ac_impl_Tree_id ?_
  unfold vc_impl_Tree_id
  rw [hpv]
  simp only [cellOf_agg, List.getD_cons_zero, List.getD_cons_succ]
  refine impl_Tree_show tab h0 hn hx hc fun s1 k1 => ?_
  have hsz : (lineT ⟨#[47]⟩ x ++ belowT n ⟨#[]⟩ x).size ≤ 1000000000000 := by rw [ByteArray.size_append]; omega
  generalize lineT ⟨#[47]⟩ x ++ belowT n ⟨#[]⟩ x = s at hR hsz
  have hlen : (bl s).length = s.size := size_bl s
  rw [pLenS_s]
  refine loop_rule (m := s.size) (fun m l st => ∃ i : Nat, m + i = s.size ∧ st = s1 ∧ l = [.int .i64 (idL ((bl s).take i) 7 : Nat), .string s, .int .i64 (s.size : Nat), .int .i64 (i : Nat)]) ?_ ⟨0, by omega, rfl, rfl⟩
  rintro m l st L ⟨i, hm, rfl, rfl⟩ hL
  simp only [vget, List.getD_cons_zero, List.getD_cons_succ]
  rw [pBin_lt, pIf_d]
  refine ⟨fun hi => ?_, fun hi => ?_⟩
  · have hi' : i < s.size := by omega
    have hget := bl_get s i hi'
    generalize hx : s[i]'hi' = x at hget
    have hx2 : x.toNat < 256 := x.toNat_lt
    have hid := idL_lt ((bl s).take i) 7 (by omega)
    rw [pBin_mul (by omega)]
    refine pIndexStr_s hi' ?_
    rw [hx, pConv_i64 (by omega), pBin_add (by omega), pBin_rem (by omega), pBin_add (by omega)]
    refine hL _ _ (m - 1) (by omega) ⟨i + 1, by omega, rfl, ?_⟩
    rw [List.take_add_one, hget, Option.toList_some, idL_snoc]
    simp only [List.cons.injEq, Value.int.injEq, true_and, and_true]
    refine ⟨by omega, by omega⟩
  · have e : i = s.size := by omega
    subst e
    rw [List.take_of_length_le (by omega)]
    exact hR st k1

noncomputable def idX (n : Nat) (x : Tr) : Int := if treeOk n x = true then (idB (lineT ⟨#[47]⟩ x ++ belowT 5 ⟨#[]⟩ x) : Nat) else -1
theorem spec_TableId {n : Nat} {es : List Value} {x : Tr} (h : RT n (Av.get w0 σ) es x) (hb : cntT n x ≤ 1000000000000) {R : Value → Vw → Prop} (hR : ∀ σ', Keeps σ σ' → R (.int .i64 (idX n x)) σ') : AC Tryd.prog w0 n_spec_TableId [.agg ⟨es⟩] σ R := by
  have h0 := h
  obtain ⟨e0, e1, e2, e3, e4, rfl, _, hpv⟩ := RT.five h
  refine ac_spec_TableId ?_
  unfold vc_spec_TableId
  rw [hpv]
  simp only [cellOf_agg, List.getD_cons_zero, List.getD_cons_succ]
  refine spec_TreeOk h0 hb ?_
  rw [pUn_not, pIf_b]
  refine ⟨fun hno => ?_, fun hyes => ?_⟩
  · have := hR σ (Keeps.refl _)
    rw [idX, if_neg (by simp at hno; rw [hno]; simp)] at this; exact this
  have hok : treeOk n x = true := by simpa using hyes
  obtain ⟨hdn, hx, hc⟩ := ok_parts hok
  have a1 : (⟨#[47]⟩ : ByteArray).size = 1 := rfl
  have a0 : (⟨#[]⟩ : ByteArray).size = 0 := rfl
  have hls := line_size hx ⟨#[47]⟩
  have hbs := below_size 5 x ⟨#[]⟩ hx (by omega)
  have h5 := hdn _ _ h0
  refine ac_spec_l31Of ?_
  unfold vc_spec_l31Of
  rw [hpv]
  simp only [cellOf_agg, List.getD_cons_zero, List.getD_cons_succ]
  refine spec_l1Line h5 hx (by omega) fun s1 k1 => ?_
  refine spec_l1Show 5 (mono_rt 5 _ _ _ _ k1.le h5) hx (by omega) (by omega) fun s2 k2 => ?_
  rw [pBin_cat (by omega)]
  refine spec_l31Id (by rw [ByteArray.size_append]; omega) ?_
  have := hR s2 (k1.trans k2)
  rw [idX, if_pos hok] at this; exact this
theorem impl_TableId (tab : Tab w0) {n : Nat} {es : List Value} {x : Tr} (h : RT n (Av.get w0 σ) es x) (hb : cntT n x ≤ 1000000000000) {R : Value → Vw → Prop} (hR : ∀ σ', Keeps σ σ' → R (.int .i64 (idX n x)) σ') : AC Tryd.prog w0 n_impl_TableId [.agg ⟨es⟩] σ R := by
  have h0 := h
  obtain ⟨e0, e1, e2, e3, e4, rfl, _, hpv⟩ := RT.five h
  refine ac_impl_TableId ?_
  unfold vc_impl_TableId
  rw [hpv]
  simp only [cellOf_agg, List.getD_cons_zero, List.getD_cons_succ]
  refine impl_TreeOk h0 hb ?_
  rw [pUn_not, pIf_b]
  refine ⟨fun hno => ?_, fun hyes => ?_⟩
  · have := hR σ (Keeps.refl _)
    rw [idX, if_neg (by simp at hno; rw [hno]; simp)] at this; exact this
  have hok : treeOk n x = true := by simpa using hyes
  obtain ⟨hdn, hx, hc⟩ := ok_parts hok
  refine impl_Tree_id tab (hdn _ _ h0) (by omega) hx (by omega) fun s1 k1 => ?_
  have := hR s1 k1
  rw [idX, if_pos hok] at this; exact this

theorem law_TableId (tab : Tab w0) {n : Nat} {es : List Value} {x : Tr} (h : RT n (Av.get w0 σ) es x) {R : Value → Vw → Prop} (hR : ∀ σ', R (.bool true) σ') : AC Tryd.prog w0 n_laws_FnExactTableId [.agg ⟨es⟩] σ R := by
  have h0 := h
  obtain ⟨e0, e1, e2, e3, e4, rfl, _, hpv⟩ := RT.five h
  refine ac_laws_FnExactTableId ?_
  unfold vc_laws_FnExactTableId
  rw [hpv]
  simp only [cellOf_agg, List.getD_cons_zero, List.getD_cons_succ]
  refine szTree n h0 (by omega) ?_
  rw [pBin_lt, pIf_d]
  refine ⟨fun _ => hR _, fun hb => ?_⟩
  rw [Av.left_neg] at hb
  have hsz : szT n x ≤ 1048576 := by omega
  have hfit := fit_of n x (by omega)
  have hcnt : cntT n x ≤ 1000000000000 := Nat.le_trans (cnt_le n x) (by omega)
  have ok := ok_rt w0 n
  refine toTree n h0 hfit fun es1 F1 s1 k1 o1 f1 => ?_
  refine spec_TableId (ok.rel _ _ _ _ o1) hcnt fun s2 k2 => ?_
  have K2 := k1.trans k2
  refine toTree n (mono_rt n _ _ _ _ K2.le h0) hfit fun es2 F2 s3 k3 o2 f2 => ?_
  have r2 := ok.rel _ _ _ _ o2
  obtain ⟨a2, b2, c2, d2, e2, rfl, _, hp2⟩ := RT.five r2
  rw [hp2]
  simp only [cellOf_agg, List.getD_cons_zero, List.getD_cons_succ]
  refine impl_TableId tab r2 hcnt fun s4 k4 => ?_
  rw [pBin_ne, pIf_d]
  refine ⟨fun h => absurd rfl h, fun _ => ?_⟩
  have K4 := (K2.trans k3).trans k4
  refine toTree n (mono_rt n _ _ _ _ K4.le h0) hfit fun es3 F3 s5 k5 o3 f3 => ?_
  refine eqTree n (mono_rt n _ _ _ _ (k4.trans k5).le r2) (ok.rel _ _ _ _ o3) ?_
  rw [pUn_not, pIf_b]
  exact ⟨fun h => by simp at h, fun _ => hR _⟩
end
end Go.Proofs.YtlbpnfhhoalenaaDoor

/- Entries of a layer: size, copy, comparison, marks. -/
set_option linter.unusedVariables false
set_option linter.unusedSimpArgs false
namespace Go.Proofs.YtlbpnfhhoalenaaDoor
open Go Go.Av

/-- An entry: a path, what it is, a bool, a number, bytes. -/
abbrev En := List ByteArray × Int × Bool × Int × ByteArray
def enOk (x : En) : Prop := (-9223372036854775808 ≤ x.2.1 ∧ x.2.1 ≤ 9223372036854775807) ∧ (-9223372036854775808 ≤ x.2.2.2.1 ∧ x.2.2.2.1 ≤ 9223372036854775807) ∧ x.2.2.2.2.size ≤ 9223372036854775807
def REn (rd : Addr → Option Value) (es : List Value) (x : En) : Prop := ∃ v, es = [v, .int .i64 x.2.1, .bool x.2.2.1, .int .i64 x.2.2.2.1, .string x.2.2.2.2] ∧ RSl 1 RS rd v x.1 ∧ enOk x
def OEn (w0 : World) (σ : Vw) (F : List Nat) (es : List Value) (x : En) : Prop := ∃ v, es = [v, .int .i64 x.2.1, .bool x.2.2.1, .int .i64 x.2.2.2.1, .string x.2.2.2.2] ∧ OStrs w0 σ F v x.1 ∧ enOk x
def szEn (x : En) : Nat := x.1.length + sumS x.1 + x.2.2.2.2.size
def cEn (x : En) : Nat := x.1.length + 4
noncomputable def mkEn (k : Nat) (x : En) : En := (mkTexts k x.1, ((k + x.1.length : Nat) : Int), decide (((k + x.1.length + 1 : Nat) : Int) % 3 = 0), ((k + x.1.length + 2 : Nat) : Int), mtext (k + x.1.length + 3))

section
variable {w0 : World} {σ : Vw}

theorem ok_en (w0 : World) : OOk w0 5 REn (OEn w0) := by
  refine ⟨?_, ?_, ?_, ?_, ?_, ?_⟩
  · rintro σ F es x ⟨v, h1, h2, h3⟩; exact ⟨v, h1, h2.rel (ok_str w0), h3⟩
  · rintro σ σ' F es x ⟨v, h1, h2, h3⟩ hF; exact ⟨v, h1, h2.frame (ok_str w0) hF, h3⟩
  · rintro σ F es x ⟨v, h1, h2, h3⟩; exact h2.dom (ok_str w0)
  · rintro σ F es x ⟨v, h1, h2, h3⟩; exact h2.2.1
  · rintro σ F es x ⟨v, rfl, h2, h3⟩; rfl
  · rintro σ F es x ⟨v, rfl, h2, h3⟩ c hc
    simp at hc
    rcases hc with rfl | rfl | rfl | rfl | rfl
    · exact OSl.one' h2
    · rfl
    · rfl
    · rfl
    · rfl
theorem mono_en {rd rd' : Addr → Option Value} {es : List Value} {x : En} (hl : Le rd rd') (h : REn rd es x) : REn rd' es x := by
  obtain ⟨v, h1, h2, h3⟩ := h; exact ⟨v, h1, h2.mono hl fun _ _ h => h, h3⟩

theorem szEntry {es : List Value} {x : En} {m : Int} {R : Value → Vw → Prop} (h : REn (Av.get w0 σ) es x) (hm : 0 ≤ m ∧ m ≤ 9223372036854775807) (hR : R (.int .i64 (Av.left m (szEn x))) σ) : AC Tryd.prog w0 n_laws_szEntry [.agg ⟨es⟩, .int .i64 m] σ R := by
  obtain ⟨p, k, d, a, t⟩ := x
  obtain ⟨v, rfl, hv, hk, ha, ht⟩ := h
  simp only at hv ht
  refine ac_laws_szEntry ?_
  unfold vc_laws_szEntry
  rw [pVal_5 hv.one rfl rfl rfl rfl]
  simp only [cellOf_agg, List.getD_cons_zero, List.getD_cons_succ]
  have hsz : szEn (p, k, d, a, t) = p.length + sumS p + t.size := rfl
  have low : m < (szEn (p, k, d, a, t) : Nat) → R (.int .i64 (-1)) σ := fun hlt => by rw [Av.left_low hlt] at hR; exact hR
  have el : ∀ (m : Int) (t : Nat), left m t = Av.left m t := fun _ _ => rfl
  refine szStringS hv hm ?_
  rw [el, pBin_lt, pIf_d]
  refine ⟨fun hlt => low (by rw [Av.left_neg] at hlt; omega), fun hge => ?_⟩
  rw [Av.left_neg] at hge
  rw [Av.left_in (by omega), pLenS_s, pBin_sub (by omega), pBin_lt, pIf_d]
  refine ⟨fun hlt => low (by omega), fun hge2 => ?_⟩
  rw [Av.left_in (by omega)] at hR
  rw [show m - ((p.length + sumS p : Nat) : Int) - (t.size : Int) = m - ((szEn (p, k, d, a, t) : Nat) : Int) by omega]
  exact hR

theorem szEntryS {v : Value} {xs : List En} {m : Int} (h : RSl 5 REn (Av.get w0 σ) v xs) (hm : 0 ≤ m ∧ m ≤ 9223372036854775807) {R : Value → Vw → Prop} (hR : R (.int .i64 (Av.left m (xs.length + sumBy szEn xs))) σ) : AC Tryd.prog w0 n_laws_szEntryS [v, .int .i64 m] σ R := by
  refine ac_laws_szEntryS ?_
  have e : vc_laws_szEntryS w0 v (.int .i64 m) σ R = VszS Tryd.prog w0 3 5 n_laws_szEntry v (.int .i64 m) σ R := by kernel_rfl
  rw [e]
  exact szS_gen (fun x _ es m R' h hm hR => szEntry h hm hR) h hm hR

theorem toEntry {es : List Value} {x : En} {R : Value → Vw → Prop} (h : REn (Av.get w0 σ) es x) (hb : x.1.length ≤ 1000000000000) (hR : ∀ es' F σ', Keeps σ σ' → OEn w0 σ' F es' x → (∀ b, b ∈ F → σ b = none) → R (.agg ⟨es'⟩) σ') : AC Tryd.prog w0 n_laws_toEntry [.agg ⟨es⟩] σ R := by
  obtain ⟨v, rfl, hv, hk⟩ := h
  refine ac_laws_toEntry ?_
  unfold vc_laws_toEntry
  rw [pVal_5 hv.one rfl rfl rfl rfl]
  simp only [cellOf_agg, List.getD_cons_zero, List.getD_cons_succ]
  refine toStringS' hv hb fun v' F σ' hkp ho hF => ?_
  rw [pVal1 (OSl.one' ho), pVal1 rfl, pVal1 rfl, pVal1 rfl, pVal1 rfl, pVal_5 (OSl.one' ho) rfl rfl rfl rfl]
  exact hR _ F σ' hkp ⟨v', rfl, ho, hk⟩ hF

theorem toEntryS {v : Value} {xs : List En} (h : RSl 5 REn (Av.get w0 σ) v xs) (hl : xs.length ≤ 1000000000000) (hb : ∀ x, x ∈ xs → x.1.length ≤ 1000000000000) {R : Value → Vw → Prop}
    (hR : ∀ v' F σ', Keeps σ σ' → OSl w0 5 (OEn w0) σ' F v' xs → (∀ b, b ∈ F → σ b = none) → R v' σ') : AC Tryd.prog w0 n_laws_toEntryS [v] σ R := by
  refine ac_laws_toEntryS ?_
  have e : vc_laws_toEntryS w0 v σ R = VtoS Tryd.prog w0 3 t_impl_Entry 5 64 n_laws_toEntry [.slice none 0 0, .int .i64 0, .bool false, .int .i64 0, .string ⟨#[]⟩] v σ R := by kernel_rfl
  rw [e]
  exact toS_gen (n := 5) (Rel := REn) (bytes := 64) rfl (ok_en w0) (fun _ _ _ _ hl h => mono_en hl h) (fun x hx s es R' _ h hR => toEntry h (hb x hx) hR) h (by omega) hR

theorem eqEntry {es es' : List Value} {x y : En} {R : Value → Vw → Prop} (h : REn (Av.get w0 σ) es x) (h' : REn (Av.get w0 σ) es' y) (hR : R (.bool (decide (x = y))) σ) : AC Tryd.prog w0 n_laws_eqEntry [.agg ⟨es⟩, .agg ⟨es'⟩] σ R := by
  obtain ⟨p, k, d, a, t⟩ := x
  obtain ⟨p', k', d', a', t'⟩ := y
  obtain ⟨v, rfl, hv, _⟩ := h
  obtain ⟨v', rfl, hv', _⟩ := h'
  refine ac_laws_eqEntry ?_
  unfold vc_laws_eqEntry
  rw [pVal_5 hv.one rfl rfl rfl rfl, pVal_5 hv'.one rfl rfl rfl rfl]
  simp only [cellOf_agg, List.getD_cons_zero, List.getD_cons_succ]
  have no : ¬ ((p, k, d, a, t) : En) = (p', k', d', a', t') → R (.bool false) σ := fun h => by rw [decide_eq_false h] at hR; exact hR
  have eb : ∀ K : Value → Prop, pBin Tryd.prog 4 .neq (.bool d) (.bool d') K ↔ K (.bool !(d == d')) := fun K => pBin_b (by kernel_rfl) rfl
  refine eqStringS hv hv' ?_
  rw [pUn_not, pIf_b]
  refine ⟨fun e => no (fun h => by simp at h e; exact e h.1), fun e1 => ?_⟩
  rw [pBin_ne, pIf_d]
  refine ⟨fun e => no (fun h => e (by simp at h; exact h.2.1)), fun e2 => ?_⟩
  rw [eb, pIf_b]
  refine ⟨fun e => no (fun h => by simp at h e; exact e h.2.2.1), fun e3 => ?_⟩
  rw [pBin_ne, pIf_d]
  refine ⟨fun e => no (fun h => e (by simp at h; exact h.2.2.2.1)), fun e4 => ?_⟩
  rw [pBin_sne, pIf_d]
  refine ⟨fun e => no (fun h => e (by simp at h; exact h.2.2.2.2)), fun e5 => ?_⟩
  have : ((p, k, d, a, t) : En) = (p', k', d', a', t') := by
    simp at e1 e3
    rw [e1, Decidable.not_not.1 e2, e3, Decidable.not_not.1 e4, Decidable.not_not.1 e5]
  rw [decide_eq_true this] at hR; exact hR

theorem eqEntryS {v v' : Value} {xs ys : List En} (h : RSl 5 REn (Av.get w0 σ) v xs) (h' : RSl 5 REn (Av.get w0 σ) v' ys) {R : Value → Vw → Prop} (hR : R (.bool (decide (xs = ys))) σ) : AC Tryd.prog w0 n_laws_eqEntryS [v, v'] σ R := by
  refine ac_laws_eqEntryS ?_
  have e : vc_laws_eqEntryS w0 v v' σ R = VeqS Tryd.prog w0 3 5 n_laws_eqEntry v v' σ R := by kernel_rfl
  rw [e]
  exact eqS_gen (fun x _ y es es' R' h h' hR => eqEntry h h' hR) h h' hR

theorem markEntryS {F : List Nat} {v : Value} {xs : List En} {k : Nat} (h : OSl w0 5 (OEn w0) σ F v xs) (hk : k + sumBy cEn xs ≤ 1000000000000) {R : Value → Vw → Prop}
    (hR : ∀ σ', KeepsBut F σ σ' → OSl w0 5 (OEn w0) σ' F v (mkS mkEn cEn k xs) → R (.int .i64 ((k + sumBy cEn xs : Nat) : Int)) σ') : AC Tryd.prog w0 n_laws_markEntryS [v, .int .i64 (k : Nat)] σ R := by
  refine ac_laws_markEntryS ?_
  unfold vc_laws_markEntryS
  refine mark_loop (ok_en w0) (mk := mkEn) (cnt := cEn) h hk ?_ hR
  intro j x k' s ys K hj hlen hkb hx hk' hO hyj hK
  simp only [vget, List.getD_cons_zero, List.getD_cons_succ]
  obtain ⟨b, o, f, c, A, C, r, hix, hb, hr, hc, hA, hOx, hbF, hf, hput⟩ := hO.focus (ok_en w0) hyj
  obtain ⟨p, q, d, a, t⟩ := x
  obtain ⟨u, rfl, h4, _⟩ := hOx
  simp only [cEn] at hk' hK h4
  have hb1 : b ∉ f := fun e => (hf b e).2 rfl
  refine hix _ ?_
  refine field_load hb hr hc hA (y := u) rfl fun g hg => ?_
  rw [hg]
  refine markStringS h4 (by omega) fun s3 k3 o4' => ?_
  have hr3 := k3 b r hr hb1
  refine hix _ ?_
  refine field_store hr3 hc hA (by show 1 < 5; omega) rfl ?_
  simp only [List.set_cons_zero, List.set_cons_succ]
  rw [pBin_add (by omega), pBin_rem (by omega), pBin_eq]
  refine hix _ ?_
  refine field_store put_at rfl hA (by show 2 < 5; omega) rfl ?_
  simp only [List.set_cons_zero, List.set_cons_succ]
  rw [put_put, pBin_add (by omega)]
  refine hix _ ?_
  refine field_store put_at rfl hA (by show 3 < 5; omega) rfl ?_
  simp only [List.set_cons_zero, List.set_cons_succ]
  rw [put_put, pBin_add (by omega)]
  rw [show ((k' + p.length : Nat) : Int) + 1 + 1 + 1 = ((k' + p.length + 3 : Nat) : Int) by omega]
  refine markText (k := k' + p.length + 3) (by omega) fun s5 k5 => ?_
  refine hix _ ?_
  refine field_store (k5 _ _ put_at) rfl hA (by show 4 < 5; omega) rfl ?_
  simp only [List.set_cons_zero, List.set_cons_succ]
  rw [pBin_add (by omega), pBin_add (by have := h.1; omega)]
  have kf : ∀ i, i ∈ f → i ∈ F := fun i hi => (hf i hi).1
  rw [show ((k' + p.length : Nat) : Int) + 1 + 1 = ((k' + p.length + 2 : Nat) : Int) by omega, show ((k' + p.length : Nat) : Int) + 1 = ((k' + p.length + 1 : Nat) : Int) by omega]
  generalize hs4 : s5.put b _ = s4
  have hs4b : ∃ r2, s4 b = some r2 ∧ r2.cells = A ++ ([u, Value.int .i64 ((k' + p.length : Nat) : Int), Value.bool (decide (((k' + p.length + 1 : Nat) : Int) % 3 = 0)), Value.int .i64 ((k' + p.length + 2 : Nat) : Int), Value.string (mtext (k' + p.length + 3))] ++ C) := by rw [← hs4]; exact ⟨_, put_at, rfl⟩
  have hs4o : ∀ i, i ≠ b → ∀ ri, s3 i = some ri → s4 i = some ri := fun i hi ri hri => by
    rw [← hs4]
    simp only [Vw.put, hi, if_false]
    exact k5 i ri (by simp [Vw.put, hi, hri])
  clear hs4
  obtain ⟨r2, hr2, hc2⟩ := hs4b
  have o5 := o4'.frame (ok_str w0) (σ' := s4) fun i hi => by
    cases hs : s3 i with
    | none => exact absurd hs (o4'.dom (ok_str w0) i hi).2
    | some ri => exact hs4o i (fun e => hb1 (e ▸ hi)) ri hs
  have kb : KeepsBut F s s4 := fun i ri hri hiF => hs4o i (fun e => hiF (e ▸ hbF)) ri (k3 i ri hri fun e => hiF (kf i e))
  have := hK s4 kb (hput s4 _ (mkEn k' (p, q, d, a, t)) r2 hr2 hc2 ⟨u, rfl, o5, ?_⟩ fun i hi hne hif => ?_)
  · rw [show (k' + (p.length + 4) : Nat) = k' + p.length + 3 + 1 by omega] at this
    exact this
  · refine ⟨?_, ?_, ?_⟩
    · show -9223372036854775808 ≤ ((k' + p.length : Nat) : Int) ∧ ((k' + p.length : Nat) : Int) ≤ 9223372036854775807; omega
    · show -9223372036854775808 ≤ ((k' + p.length + 2 : Nat) : Int) ∧ ((k' + p.length + 2 : Nat) : Int) ≤ 9223372036854775807; omega
    · exact mtext_size (k := k' + p.length + 3) (by omega)
  · have dd := hO.dom (ok_en w0) i hi
    cases hs : s i with
    | none => exact absurd hs dd.2
    | some ri => exact hs4o i hne ri (k3 i ri hs hif)

theorem heldEntryS {v : Value} {xs : List En} {k : Nat} (h : RSl 5 REn (Av.get w0 σ) v (mkS mkEn cEn k xs)) (hk : k + sumBy cEn xs ≤ 1000000000000) {R : Value → Vw → Prop}
    (hR : ∀ σ', Keeps σ σ' → R (.int .i64 ((k + sumBy cEn xs : Nat) : Int)) σ') : AC Tryd.prog w0 n_laws_heldEntryS [v, .int .i64 (k : Nat)] σ R := by
  refine ac_laws_heldEntryS ?_
  unfold vc_laws_heldEntryS
  refine held_loop (n := 5) (Rel := REn) (fun _ _ _ _ hl h => mono_en hl h) (mk := mkEn) (cnt := cEn) h hk ?_ hR
  intro j x k' s K hj hkb hx hk' hrd hyj hK
  have hl := h.le
  rw [mkS_len] at hl
  obtain ⟨p, q, d, a, t⟩ := x
  simp only [cEn] at hk' hK
  simp only [vget, List.getD_cons_zero, List.getD_cons_succ]
  refine hrd.atf hyj 0 (by omega) fun es g h1 hg => ?_
  obtain ⟨u, rfl, h2, _⟩ := h1
  simp only [List.getElem?_cons_zero, List.getElem?_cons_succ, Option.some.injEq] at hg
  rw [← hg]
  have h2 : RSl 1 RS (Av.get w0 s) u (mkTexts k' p) := h2
  refine heldStringS h2 (by omega) fun s1 k1 => ?_
  rw [pBin_lt, pIf_d]
  refine ⟨fun h => by omega, fun _ => ?_⟩
  have hrd1 := hrd.mono k1.le fun es x => mono_en k1.le
  refine hrd1.atf hyj 1 (by omega) fun es g h1 hg => ?_
  obtain ⟨u', rfl, _⟩ := h1
  simp only [List.getElem?_cons_zero, List.getElem?_cons_succ, Option.some.injEq] at hg
  rw [← hg, pBin_ne, pIf_d]
  refine ⟨fun h => absurd rfl h, fun _ => ?_⟩
  rw [pBin_add (by omega), show ((k' + p.length : Nat) : Int) + 1 = ((k' + p.length + 1 : Nat) : Int) by omega]
  refine hrd1.atf hyj 2 (by omega) fun es g h1 hg => ?_
  obtain ⟨u', rfl, _⟩ := h1
  simp only [List.getElem?_cons_zero, List.getElem?_cons_succ, Option.some.injEq] at hg
  rw [← hg, pBin_rem (by omega), pBin_eq, pBin_b (v := .bool false) (by kernel_rfl) (by simp [mkEn]), pIf_b]
  refine ⟨nofun, fun _ => ?_⟩
  rw [pBin_add (by omega), show ((k' + p.length + 1 : Nat) : Int) + 1 = ((k' + p.length + 2 : Nat) : Int) by omega]
  refine hrd1.atf hyj 3 (by omega) fun es g h1 hg => ?_
  obtain ⟨u', rfl, _⟩ := h1
  simp only [List.getElem?_cons_zero, List.getElem?_cons_succ, Option.some.injEq] at hg
  rw [← hg, pBin_ne, pIf_d]
  refine ⟨fun h => absurd rfl h, fun _ => ?_⟩
  rw [pBin_add (by omega), show ((k' + p.length + 2 : Nat) : Int) + 1 = ((k' + p.length + 3 : Nat) : Int) by omega]
  refine hrd1.atfp hyj 4 (by omega) fun qq es g h1 hg => ?_
  obtain ⟨u', rfl, _⟩ := h1
  simp only [List.getElem?_cons_zero, List.getElem?_cons_succ, Option.some.injEq] at hg
  refine markText (k := k' + p.length + 3) (by omega) fun s2 k2 => ⟨k2.stay, ?_⟩
  rw [← hg, pBin_sne, pIf_d]
  refine ⟨fun h => absurd rfl h, fun _ => ?_⟩
  rw [pBin_add (by omega), pBin_add (by omega)]
  have := hK s2 (k1.trans k2)
  rw [show (k' + (p.length + 4) : Nat) = k' + p.length + 3 + 1 by omega] at this
  exact this
end

theorem open_entry {H : Type} {enc : TypeId × Value → H} {W : World} {spare : Nat → Bool} (fuel : Nat) (es : List Value) (y : DataW H × List MemPlace) (h : DataW.trod enc Tryd.prog W 0 spare true fuel t_laws_Entry es = some y) (hl : es.length = 5) : ∃ x, REn (Av.get W σ0) es x := by
  have hT : Tryd.prog.underlying t_laws_Entry = some (.struct (fsOf Tryd.prog t_laws_Entry)) := by kernel_rfl
  obtain ⟨f0, y0, l0, h0⟩ := open_field' hT 0 t_s_string 0 1 (by kernel_rfl) (by kernel_rfl) h
  obtain ⟨f1, y1, l1, h1⟩ := open_field' hT 1 t_int 1 1 (by kernel_rfl) (by kernel_rfl) h
  obtain ⟨f2, y2, l2, h2⟩ := open_field' hT 2 t_bool 2 1 (by kernel_rfl) (by kernel_rfl) h
  obtain ⟨f3, y3, l3, h3⟩ := open_field' hT 3 t_int 3 1 (by kernel_rfl) (by kernel_rfl) h
  obtain ⟨f4, y4, l4, h4⟩ := open_field' hT 4 t_string 4 1 (by kernel_rfl) (by kernel_rfl) h
  obtain ⟨u, ns, hu, hus⟩ := open_rsl (t := t_s_string) (e := t_string) (by kernel_rfl) (by kernel_rfl) (open_rs (by kernel_rfl)) h0
  obtain ⟨m, hm, hm2⟩ := open_int (by kernel_rfl) h1
  obtain ⟨d, hd⟩ := open_bool (by kernel_rfl) h2
  obtain ⟨k, hk, hk2⟩ := open_int (by kernel_rfl) h3
  obtain ⟨s, hs, hs2⟩ := open_str (by kernel_rfl) h4
  exact ⟨(ns, m, d, k, s), u, cut5 hl hu hm hd hk hs, hus, hm2, hk2, hs2⟩
end Go.Proofs.YtlbpnfhhoalenaaDoor

/- When an entry is sound; an entry as a text. -/
set_option linter.unusedVariables false
set_option linter.unusedSimpArgs false
namespace Go.Proofs.YtlbpnfhhoalenaaDoor
open Go Go.Av Go.RowKit

def kindB (x : En) : Bool :=
  if x.2.1 = 1 then !x.2.2.1 && (decide (x.2.2.2.1 = 0) && decide (x.2.2.2.2 = ⟨#[]⟩)) else if x.2.1 = 2 then !x.2.2.1 || decide (x.2.2.2.2 = ⟨#[]⟩)
  else if x.2.1 = 3 then !x.2.2.1 && decide (x.2.2.2.2 = ⟨#[]⟩) else if x.2.1 = 4 then !x.2.2.1 && decide (x.2.2.2.1 = 0) else false
noncomputable def enB (x : En) : Bool :=
  (allNames x.1 && inB x.1.length (if x.2.1 = 3 then 0 else 1) 4) && (inB x.2.2.2.1 0 7 && (decide (x.2.2.2.2.size ≤ 24) && kindB x))

theorem pNotIf {b : Bool} {A B : Prop} : pUn .not (.bool b) (fun v => pIf v A B) ↔ (b = false → A) ∧ (b = true → B) := by
  rw [pUn_not, pIf_b]
  cases b <;> simp

section
variable {w0 : World} {σ : Vw}

theorem impl_mode {a : Int} {R : Value → Vw → Prop} (hR : R (.bool (inB a 0 7)) σ) : AC Tryd.prog w0 n_impl_modeOk [.int .i64 a] σ R := by
  refine ac_impl_modeOk ?_
  unfold vc_impl_modeOk
  exact impl_within hR

set_option maxRecDepth 20000 in
theorem impl_entryOk {es : List Value} {x : En} (h : REn (Av.get w0 σ) es x) {R : Value → Vw → Prop} (hR : R (.bool (enB x)) σ) : AC Tryd.prog w0 n_impl_entryOk [.agg ⟨es⟩] σ R := by
  obtain ⟨p, k, d, a, t⟩ := x
  obtain ⟨v, rfl, hv, _⟩ := h
  simp only at hv
  refine ac_impl_entryOk ?_
  unfold vc_impl_entryOk
  rw [pVal_5 hv.one rfl rfl rfl rfl]
  simp only [cellOf_agg, List.getD_cons_zero, List.getD_cons_succ]
  have fin : ∀ b, enB (p, k, d, a, t) = b → R (.bool b) σ := fun b h => h ▸ hR
  clear hR
  by_cases hk3 : k = 3
  · rw [pBin_eq, pIf_d]
    refine ⟨fun _ => ?_, fun h => absurd hk3 h⟩
    refine impl_namesOk hv (pNotIf.2 ⟨fun e => fin _ (by simp only [enB]; rw [if_pos hk3, e]; rfl), fun e1 => ?_⟩)
    refine impl_mode (pNotIf.2 ⟨fun e => fin _ (by simp only [enB]; rw [e]; simp), fun e2 => ?_⟩)
    refine pLenS_s.2 (pBin_gt.2 (pIf_d.2 ⟨fun e => fin _ ?_, fun e3 => ?_⟩))
    · simp only [enB]; rw [decide_eq_false (by omega)]; simp
    have e4 : enB (p, k, d, a, t) = kindB (p, k, d, a, t) := by
      simp only [enB]; rw [if_pos hk3, e1, e2, decide_eq_true (by omega)]; simp
    rw [e4] at fin
    clear e1 e2 e4
    cases d <;>
    repeat' (first | (with_reducible refine pBin_eq.2 ?_; with_reducible refine pIf_d.2 ⟨fun _ => ?_, fun _ => ?_⟩) | with_reducible refine pNotIf.2 ⟨fun _ => ?_, fun _ => ?_⟩ | (with_reducible refine pUn_not.2 ?_; with_reducible refine pIf_b.2 ⟨fun _ => ?_, fun _ => ?_⟩) | with_reducible refine pBin_seq.2 ?_)
    all_goals first | (exfalso; omega) | (exfalso; simp_all; done) | (refine fin _ ?_; simp_all [kindB]; done) | (refine pBin_eq.2 (fin _ ?_); simp_all [kindB]; done)
  · rw [pBin_eq, pIf_d]
    refine ⟨fun h => absurd h hk3, fun _ => ?_⟩
    refine impl_namesOk hv (pNotIf.2 ⟨fun e => fin _ (by simp only [enB]; rw [if_neg hk3, e]; rfl), fun e1 => ?_⟩)
    refine impl_mode (pNotIf.2 ⟨fun e => fin _ (by simp only [enB]; rw [e]; simp), fun e2 => ?_⟩)
    refine pLenS_s.2 (pBin_gt.2 (pIf_d.2 ⟨fun e => fin _ ?_, fun e3 => ?_⟩))
    · simp only [enB]; rw [decide_eq_false (by omega)]; simp
    have e4 : enB (p, k, d, a, t) = kindB (p, k, d, a, t) := by
      simp only [enB]; rw [if_neg hk3, e1, e2, decide_eq_true (by omega)]; simp
    rw [e4] at fin
    clear e1 e2 e4
    cases d <;>
    repeat' (first | (with_reducible refine pBin_eq.2 ?_; with_reducible refine pIf_d.2 ⟨fun _ => ?_, fun _ => ?_⟩) | with_reducible refine pNotIf.2 ⟨fun _ => ?_, fun _ => ?_⟩ | (with_reducible refine pUn_not.2 ?_; with_reducible refine pIf_b.2 ⟨fun _ => ?_, fun _ => ?_⟩) | with_reducible refine pBin_seq.2 ?_)
    all_goals first | (exfalso; omega) | (exfalso; simp_all; done) | (refine fin _ ?_; simp_all [kindB]; done) | (refine pBin_eq.2 (fin _ ?_); simp_all [kindB]; done)

set_option maxRecDepth 20000 in
theorem spec_entryOk {es : List Value} {x : En} (h : REn (Av.get w0 σ) es x) {R : Value → Vw → Prop} (hR : R (.bool (enB x)) σ) : AC Tryd.prog w0 n_spec_l3EntryOk [.agg ⟨es⟩] σ R := by
  obtain ⟨p, k, d, a, t⟩ := x
  obtain ⟨v, rfl, hv, _⟩ := h
  simp only at hv
  refine ac_spec_l3EntryOk ?_
  unfold vc_spec_l3EntryOk
  rw [pVal_5 hv.one rfl rfl rfl rfl]
  simp only [cellOf_agg, List.getD_cons_zero, List.getD_cons_succ]
  have fin : ∀ b, enB (p, k, d, a, t) = b → R (.bool b) σ := fun b h => h ▸ hR
  clear hR
  have hl := hv.le
  rw [hv.len, pBin_gt, pIf_d]
  refine ⟨fun hp => ?_, fun hp => ?_⟩
  · have hin : inB p.length (if k = 3 then 0 else 1) 4 = inB p.length 1 4 := by
      unfold inB
      congr 1
      apply propext
      split <;> omega
    refine spec_PathOk hv (pNotIf.2 ⟨fun e => fin _ (by simp only [enB]; rw [hin, e]; rfl), fun e1 => ?_⟩)
    refine spec_In (pNotIf.2 ⟨fun e => fin _ (by simp only [enB]; rw [e]; simp), fun e2 => ?_⟩)
    refine pLenS_s.2 (pBin_gt.2 (pIf_d.2 ⟨fun e => fin _ ?_, fun e3 => ?_⟩))
    · simp only [enB]; rw [decide_eq_false (by omega)]; simp
    have e4 : enB (p, k, d, a, t) = kindB (p, k, d, a, t) := by
      simp only [enB]; rw [hin, e1, e2, decide_eq_true (by omega)]; simp
    rw [e4] at fin
    clear e1 e2 e4 hin
    cases d <;>
    repeat' (first | (with_reducible refine hv.len.2 ?_; with_reducible refine pBin_gt.2 ?_; with_reducible refine pIf_d.2 ⟨fun _ => ?_, fun _ => ?_⟩) | (with_reducible refine pBin_eq.2 ?_; with_reducible refine pIf_d.2 ⟨fun _ => ?_, fun _ => ?_⟩) | with_reducible refine pNotIf.2 ⟨fun _ => ?_, fun _ => ?_⟩ | (with_reducible refine pUn_not.2 ?_; with_reducible refine pIf_b.2 ⟨fun _ => ?_, fun _ => ?_⟩) | with_reducible refine pBin_seq.2 ?_)
    all_goals first | (exfalso; omega) | (exfalso; simp_all; done) | (refine fin _ ?_; simp_all [kindB]; done) | (refine pBin_eq.2 (fin _ ?_); simp_all [kindB]; done)
  · have hp0 : p = [] := List.eq_nil_of_length_eq_zero (by omega)
    subst hp0
    refine spec_In (pNotIf.2 ⟨fun e => fin _ (by simp only [enB]; rw [e]; simp), fun e2 => ?_⟩)
    refine pLenS_s.2 (pBin_gt.2 (pIf_d.2 ⟨fun e => fin _ ?_, fun e3 => ?_⟩))
    · simp only [enB]; rw [decide_eq_false (by omega)]; simp
    have e4 : enB ([], k, d, a, t) = (decide (k = 3) && kindB ([], k, d, a, t)) := by
      simp only [enB]; rw [e2, decide_eq_true (by omega)]
      by_cases hk : k = 3
      · rw [if_pos hk]; simp [hk, allNames, inB]
      · rw [if_neg hk]; simp [hk, allNames, inB]
    rw [e4] at fin
    clear e2 e4
    cases d <;>
    repeat' (first | (with_reducible refine hv.len.2 ?_; with_reducible refine pBin_gt.2 ?_; with_reducible refine pIf_d.2 ⟨fun _ => ?_, fun _ => ?_⟩) | (with_reducible refine pBin_eq.2 ?_; with_reducible refine pIf_d.2 ⟨fun _ => ?_, fun _ => ?_⟩) | with_reducible refine pNotIf.2 ⟨fun _ => ?_, fun _ => ?_⟩ | (with_reducible refine pUn_not.2 ?_; with_reducible refine pIf_b.2 ⟨fun _ => ?_, fun _ => ?_⟩) | with_reducible refine pBin_seq.2 ?_)
    all_goals first | (exfalso; simp only [List.length_nil] at *; omega) | (exfalso; simp_all; done) | (refine fin _ ?_; simp_all [kindB]; done) | (refine pBin_eq.2 (fin _ ?_); simp_all [kindB]; done)
end

/-! ### Its text -/
def lineE (x : En) : ByteArray :=
  if x.2.1 = 1 then ⟨#[103, 111, 110, 101, 32]⟩ ++ pathT x.1 ++ ⟨#[10]⟩
  else if x.2.1 = 3 then ⟨#[109, 111, 100, 101, 32]⟩ ++ pathT x.1 ++ ⟨#[32]⟩ ++ decZ x.2.2.2.1 ++ ⟨#[10]⟩
  else if x.2.1 = 4 then ⟨#[100, 97, 116, 97, 32]⟩ ++ pathT x.1 ++ ⟨#[32]⟩ ++ dataT x.2.2.2.2 ++ ⟨#[10]⟩
  else if x.2.2.1 = true then ⟨#[110, 101, 119, 100, 105, 114, 32]⟩ ++ pathT x.1 ++ ⟨#[32]⟩ ++ decZ x.2.2.2.1 ++ ⟨#[10]⟩
  else ⟨#[110, 101, 119, 32]⟩ ++ pathT x.1 ++ ⟨#[32]⟩ ++ decZ x.2.2.2.1 ++ ⟨#[32]⟩ ++ dataT x.2.2.2.2 ++ ⟨#[10]⟩
/-- Its parts are short. -/
def smallE (x : En) : Prop := x.1.length + sumS x.1 ≤ 24 ∧ (0 ≤ x.2.2.2.1 ∧ x.2.2.2.1 ≤ 7) ∧ x.2.2.2.2.size ≤ 24 ∧ (1 ≤ x.2.1 ∧ x.2.1 ≤ 4)
theorem names_sum : ∀ {p : List ByteArray}, allNames p = true → sumS p ≤ 5 * p.length
  | [], _ => by simp [sumS]
  | x :: p, h => by
    have h0 := allNames_iff.1 h 0 x rfl
    have h1 : allNames p = true := allNames_iff.2 fun j y hj => allNames_iff.1 h (j + 1) y (by simpa using hj)
    have := names_sum h1
    simp only [nameOk, Bool.and_eq_true, decide_eq_true_eq, inB] at h0
    simp only [sumS, List.length_cons]
    omega
theorem en_small {x : En} (h : enB x = true) : smallE x := by
  obtain ⟨p, k, d, a, t⟩ := x
  simp only [enB, Bool.and_eq_true, decide_eq_true_eq, inB] at h
  obtain ⟨⟨h1, h2⟩, h3, h4, h5⟩ := h
  have := names_sum h1
  refine ⟨by simp only; split at h2 <;> omega, h3, h4, ?_⟩
  simp only [kindB] at h5
  simp only
  split at h5
  · omega
  · split at h5
    · omega
    · split at h5
      · omega
      · split at h5
        · omega
        · cases h5
theorem lineE_size {x : En} (h : smallE x) : (lineE x).size ≤ 100 := by
  obtain ⟨h1, h2, h3, _⟩ := h
  have a1 := dec_one h2
  have a2 := dataT_size x.2.2.2.2
  have a3 := pathT_size x.1
  unfold lineE
  split
  · simp only [ByteArray.size_append]; show 5 + _ + 1 ≤ _; omega
  · split
    · simp only [ByteArray.size_append]; show 5 + _ + 1 + _ + 1 ≤ _; omega
    · split
      · simp only [ByteArray.size_append]; show 5 + _ + 1 + _ + 1 ≤ _; omega
      · split
        · simp only [ByteArray.size_append]; show 7 + _ + 1 + _ + 1 ≤ _; omega
        · simp only [ByteArray.size_append]; show 4 + _ + 1 + _ + 1 + _ + 1 ≤ _; omega

section
variable {w0 : World} {σ : Vw}

theorem impl_line (tab : Tab w0) {es : List Value} {x : En} (h : REn (Av.get w0 σ) es x) (hx : smallE x) {R : Value → Vw → Prop} (hR : ∀ σ', Keeps σ σ' → R (.string (lineE x)) σ') : AC Tryd.prog w0 n_impl_Entry_line [.agg ⟨es⟩] σ R := by
  obtain ⟨h1, h2, h3, h4⟩ := hx
  have a1 := dec_one h2
  have a2 := dataT_size x.2.2.2.2
  have a3 := pathT_size x.1
  obtain ⟨p, k, d, a, t⟩ := x
  obtain ⟨v, rfl, hv, _⟩ := h
  simp only at hv h1 h2 h3 h4 a1 a2 a3
  refine ac_impl_Entry_line ?_
  unfold vc_impl_Entry_line
  rw [pVal_5 hv.one rfl rfl rfl rfl]
  simp only [cellOf_agg, List.getD_cons_zero, List.getD_cons_succ]
  have s5 : ∀ b c d e f, (⟨#[b, c, d, e, f]⟩ : ByteArray).size = 5 := fun _ _ _ _ _ => rfl
  have s7 : ∀ b c d e f g i, (⟨#[b, c, d, e, f, g, i]⟩ : ByteArray).size = 7 := fun _ _ _ _ _ _ _ => rfl
  have s4 : ∀ b c d e, (⟨#[b, c, d, e]⟩ : ByteArray).size = 4 := fun _ _ _ _ => rfl
  have s1 : ∀ b, (⟨#[b]⟩ : ByteArray).size = 1 := fun _ => rfl
  refine impl_pathText hv (by omega) ?_
  refine strconv_Itoa tab (by omega) ?_
  rw [pBin_eq, pIf_d]
  refine ⟨fun e1 => ?_, fun e1 => ?_⟩
  · rw [pBin_cat (by rw [s5]; omega), pBin_cat (by simp only [ByteArray.size_append, s5, s1]; omega)]
    have := hR σ (Keeps.refl _)
    rw [lineE, if_pos e1] at this; exact this
  rw [pBin_eq, pIf_d]
  refine ⟨fun e3 => ?_, fun e3 => ?_⟩
  · rw [pBin_cat (by rw [s5]; omega), pBin_cat (by simp only [ByteArray.size_append, s5, s1]; omega), pBin_cat (by simp only [ByteArray.size_append, s5, s1]; omega), pBin_cat (by simp only [ByteArray.size_append, s5, s1]; omega)]
    have := hR σ (Keeps.refl _)
    rw [lineE, if_neg e1, if_pos e3] at this; exact this
  rw [pBin_eq, pIf_d]
  refine ⟨fun e4 => ?_, fun e4 => ?_⟩
  · rw [pBin_cat (by rw [s5]; omega), pBin_cat (by simp only [ByteArray.size_append, s5, s1]; omega)]
    refine impl_dataText (by omega) fun s2 k2 => ?_
    rw [pBin_cat (by simp only [ByteArray.size_append, s5, s1]; omega), pBin_cat (by simp only [ByteArray.size_append, s5, s1]; omega)]
    have := hR s2 k2
    rw [lineE, if_neg e1, if_neg e3, if_pos e4] at this; exact this
  rw [pIf_b]
  refine ⟨fun hd => ?_, fun hd => ?_⟩
  · rw [pBin_cat (by rw [s7]; omega), pBin_cat (by simp only [ByteArray.size_append, s7, s1]; omega), pBin_cat (by simp only [ByteArray.size_append, s7, s1]; omega), pBin_cat (by simp only [ByteArray.size_append, s7, s1]; omega)]
    have := hR σ (Keeps.refl _)
    rw [lineE, if_neg e1, if_neg e3, if_neg e4, if_pos hd] at this; exact this
  · rw [pBin_cat (by rw [s4]; omega), pBin_cat (by simp only [ByteArray.size_append, s4, s1]; omega), pBin_cat (by simp only [ByteArray.size_append, s4, s1]; omega), pBin_cat (by simp only [ByteArray.size_append, s4, s1]; omega)]
    refine impl_dataText (by omega) fun s2 k2 => ?_
    rw [pBin_cat (by simp only [ByteArray.size_append, s4, s1]; omega), pBin_cat (by simp only [ByteArray.size_append, s4, s1]; omega)]
    have := hR s2 k2
    rw [lineE, if_neg e1, if_neg e3, if_neg e4, if_neg (by simp [hd])] at this; exact this

theorem spec_l3Text {es : List Value} {x : En} (h : REn (Av.get w0 σ) es x) (hx : smallE x) {R : Value → Vw → Prop} (hR : ∀ σ', Keeps σ σ' → R (.string (lineE x)) σ') : AC Tryd.prog w0 n_spec_l3Text [.agg ⟨es⟩] σ R := by
  obtain ⟨h1, h2, h3, h4⟩ := hx
  have a1 := dec_one h2
  have a2 := dataT_size x.2.2.2.2
  have a3 := pathT_size x.1
  obtain ⟨p, k, d, a, t⟩ := x
  obtain ⟨v, rfl, hv, _⟩ := h
  simp only at hv h1 h2 h3 h4 a1 a2 a3
  refine ac_spec_l3Text ?_
  unfold vc_spec_l3Text
  rw [pVal_5 hv.one rfl rfl rfl rfl]
  simp only [cellOf_agg, List.getD_cons_zero, List.getD_cons_succ]
  have s5 : ∀ b c d e f, (⟨#[b, c, d, e, f]⟩ : ByteArray).size = 5 := fun _ _ _ _ _ => rfl
  have s7 : ∀ b c d e f g i, (⟨#[b, c, d, e, f, g, i]⟩ : ByteArray).size = 7 := fun _ _ _ _ _ _ _ => rfl
  have s4 : ∀ b c d e, (⟨#[b, c, d, e]⟩ : ByteArray).size = 4 := fun _ _ _ _ => rfl
  have s1 : ∀ b, (⟨#[b]⟩ : ByteArray).size = 1 := fun _ => rfl
  refine spec_l3Name hv (by omega) ?_
  rw [pBin_eq, pIf_d]
  refine ⟨fun e1 => ?_, fun e1 => ?_⟩
  · rw [pBin_cat (by rw [s5]; omega), pBin_cat (by simp only [ByteArray.size_append, s5, s1]; omega)]
    have := hR σ (Keeps.refl _)
    rw [lineE, if_pos e1] at this; exact this
  rw [pBin_eq, pIf_d]
  refine ⟨fun e2 => ?_, fun e2 => ?_⟩
  · rw [pIf_b]
    refine ⟨fun hd => ?_, fun hd => ?_⟩
    · rw [pBin_cat (by rw [s7]; omega), pBin_cat (by simp only [ByteArray.size_append, s7, s1]; omega)]
      refine spec_l1Dec (by omega) fun s2 k2 => ?_
      rw [pBin_cat (by simp only [ByteArray.size_append, s7, s1]; omega), pBin_cat (by simp only [ByteArray.size_append, s7, s1]; omega)]
      have := hR s2 k2
      rw [lineE, if_neg e1, if_neg (by show ¬ k = 3; omega), if_neg (by show ¬ k = 4; omega), if_pos hd] at this; exact this
    · rw [pBin_eq, pIf_d]
      refine ⟨fun _ => ?_, fun h => absurd e2 h⟩
      rw [pBin_cat (by rw [s4]; omega), pBin_cat (by simp only [ByteArray.size_append, s4, s1]; omega)]
      refine spec_l1Dec (by omega) fun s2 k2 => ?_
      rw [pBin_cat (by simp only [ByteArray.size_append, s4, s1]; omega), pBin_cat (by simp only [ByteArray.size_append, s4, s1]; omega)]
      refine spec_l1Hex (by omega) ?_
      rw [pBin_cat (by simp only [ByteArray.size_append, s4, s1]; omega), pBin_cat (by simp only [ByteArray.size_append, s4, s1]; omega)]
      have := hR s2 k2
      rw [lineE, if_neg e1, if_neg (by show ¬ k = 3; omega), if_neg (by show ¬ k = 4; omega), if_neg (by simp [hd])] at this; exact this
  rw [pBin_eq, pIf_d]
  refine ⟨fun h => absurd h e2, fun _ => ?_⟩
  rw [pBin_eq, pIf_d]
  refine ⟨fun e3 => ?_, fun e3 => ?_⟩
  · rw [pBin_cat (by rw [s5]; omega), pBin_cat (by simp only [ByteArray.size_append, s5, s1]; omega)]
    refine spec_l1Dec (by omega) fun s2 k2 => ?_
    rw [pBin_cat (by simp only [ByteArray.size_append, s5, s1]; omega), pBin_cat (by simp only [ByteArray.size_append, s5, s1]; omega)]
    have := hR s2 k2
    rw [lineE, if_neg e1, if_pos e3] at this; exact this
  · rw [pBin_cat (by rw [s5]; omega), pBin_cat (by simp only [ByteArray.size_append, s5, s1]; omega)]
    refine spec_l1Hex (by omega) ?_
    rw [pBin_cat (by simp only [ByteArray.size_append, s5, s1]; omega), pBin_cat (by simp only [ByteArray.size_append, s5, s1]; omega)]
    have := hR σ (Keeps.refl _)
    rw [lineE, if_neg e1, if_neg e3, if_pos (by show k = 4; omega)] at this; exact this
end
end Go.Proofs.YtlbpnfhhoalenaaDoor

/- 'LayerWrite': entry by entry, by either hand; the law. -/
set_option linter.unusedVariables false
set_option linter.unusedSimpArgs false
namespace Go.Proofs.YtlbpnfhhoalenaaDoor
open Go Go.Av Go.RowKit

def layT (xs : List En) : ByteArray := catB (xs.map lineE)
theorem layT_size {xs : List En} (h : ∀ x, x ∈ xs → smallE x) : (layT xs).size ≤ 100 * xs.length := by
  have h1 : (layT xs).size ≤ sumBy (fun _ => 100) xs := catB_size fun x hx => lineE_size (h x hx)
  have h2 : ∀ l : List En, sumBy (fun _ => 100) l = 100 * l.length := fun l => by
    induction l with
    | nil => rfl
    | cons a r ih => simp only [sumBy, ih, List.length_cons]; omega
  rw [h2] at h1; exact h1
theorem layT_take {xs : List En} {j : Nat} {x : En} (hj : xs[j]? = some x) : layT (xs.take (j + 1)) = layT (xs.take j) ++ lineE x := by
  rw [layT, List.take_add_one, hj, Option.toList_some, List.map_append, List.map_cons, List.map_nil, catB_snoc]; rfl
noncomputable def layX (xs : List En) : ByteArray := if allB enB xs = true ∧ (layT xs).size ≤ 6000 then layT xs else ⟨#[]⟩
theorem layX_bad {xs : List En} {j : Nat} {x : En} (hj : xs[j]? = some x) (h : enB x = false) : layX xs = ⟨#[]⟩ := by
  rw [layX, if_neg]; rw [allB_bad hj h]; simp

section
variable {w0 : World} {σ : Vw}

theorem spec_LayerWrite {v : Value} {xs : List En} (h : RSl 5 REn (Av.get w0 σ) v xs) (hb : xs.length ≤ 100000000) {R : Value → Vw → Prop} (hR : ∀ σ', Keeps σ σ' → R (.string (layX xs)) σ') : AC Tryd.prog w0 n_spec_LayerWrite [v] σ R := by
  refine ac_spec_LayerWrite ?_
  unfold vc_spec_LayerWrite
  refine loop_rule (m := xs.length) (fun m l st => ∃ j : Nat, m + j = xs.length ∧ Keeps σ st ∧ (∀ (i : Nat) (x : En), i < j → xs[i]? = some x → enB x = true) ∧ l = [v, .string ⟨#[]⟩, .string (layT (xs.take j)), .int .i64 (j : Nat)]) ?_ ⟨0, by omega, Keeps.refl _, fun i x h => by omega, rfl⟩
  rintro m l st L ⟨j, hm, ks, ht, rfl⟩ hL
  simp only [vget, List.getD_cons_zero, List.getD_cons_succ]
  have hst := h.mono ks.le fun es x => mono_en ks.le
  rw [hst.len, pBin_lt, pIf_d]
  refine ⟨fun hj => ?_, fun hj => ?_⟩
  · have hx := List.getElem?_eq_getElem (show j < xs.length by omega)
    generalize xs[j]'(by omega) = x at hx
    refine hst.at hx fun g hg => ?_
    refine spec_entryOk hg (pNotIf.2 ⟨fun e => ?_, fun e => ?_⟩)
    · have := hR st ks
      rw [layX_bad hx e] at this; exact this
    · have hsm := en_small e
      have hls := lineE_size hsm
      have hts : (layT (xs.take j)).size ≤ 100 * (xs.take j).length := layT_size fun y hy => by
        obtain ⟨i, hi⟩ := List.getElem?_of_mem hy
        have hij : i < j := by have := (List.getElem?_eq_some_iff.1 hi).1; rw [List.length_take] at this; omega
        rw [List.getElem?_take_of_lt hij] at hi
        exact en_small (ht i y hij hi)
      rw [List.length_take] at hts
      refine hst.at hx fun g2 hg2 => ?_
      refine spec_l3Text hg2 hsm fun s2 k2 => ?_
      rw [pBin_cat (by omega), pBin_add (by omega)]
      refine hL _ _ (m - 1) (by omega) ⟨j + 1, by omega, ks.trans k2, fun i y hi he => ?_, by rw [layT_take hx]; simp⟩
      by_cases e' : i = j
      · subst e'; rw [hx] at he; cases he; exact e
      · exact ht i y (by omega) he
  · have e : j = xs.length := by omega
    subst e
    rw [List.take_length]
    have hall : allB enB xs = true := allB_iff.2 fun i x he => ht i x (List.getElem?_eq_some_iff.1 he).1 he
    show pLenS (.string (layT xs)) _
    rw [pLenS_s, pBin_gt, pIf_d]
    have := hR st ks
    refine ⟨fun hgt => ?_, fun hle => ?_⟩
    · rw [layX, if_neg (by omega)] at this; exact this
    · rw [layX, if_pos ⟨hall, by omega⟩] at this; exact this

theorem len_view {b : Nat} {F : List Nat} {bs : List Value} (h : BV w0 σ b F bs) {R : Value → Vw → Prop} (hR : R (.int .i64 (bs.length : Nat)) σ) : AC Tryd.prog w0 n_p_strings_Builder_Len [.pointer (some ⟨b, 0, none⟩)] σ R := by
  obtain ⟨hb, p, v, hp, hr, hv⟩ := h
  refine ac_p_strings_Builder_Len ?_
  unfold vc_p_strings_Builder_Len
  rw [pNil_s, pField_s, addr_add]
  refine ⟨⟨b, 1, none⟩, fun _ => v, rfl, fun i hi => ?_, ?_⟩
  · have e : i = 0 := by omega
    subst e
    rw [addr_add, get_row hb hr]; rfl
  · rcases hv with ⟨rfl, rfl, _⟩ | ⟨q, cap, rfl, _⟩
    · exact pLen_s.2 hR
    · exact pLen_s.2 hR

theorem impl_LayerWrite (tab : Tab w0) {v : Value} {xs : List En} (h : RSl 5 REn (Av.get w0 σ) v xs) (hb : xs.length ≤ 100000000) {R : Value → Vw → Prop} (hR : ∀ σ', Keeps σ σ' → R (.string (layX xs)) σ') : AC Tryd.prog w0 n_impl_LayerWrite [v] σ R := by
  refine ac_impl_LayerWrite ?_
  unfold vc_impl_LayerWrite
  rw [pVal_2 rfl rfl]
  intro b hb1 hb2
  have kb : Keeps σ (σ.put b ⟨Tryd.laysB_ren.t 72, [.pointer none, .slice none 0 0], 2, (0, 0)⟩) := Keeps.put hb2
  have hB0 : BV w0 (σ.put b ⟨Tryd.laysB_ren.t 72, [.pointer none, .slice none 0 0], 2, (0, 0)⟩) b [b] [] := BV.new (w0 := w0) (σ := σ) hb1
  rw [h.len]
  refine loop_rule (m := xs.length) (fun m l st => ∃ (j : Nat) (F : List Nat), m + j = xs.length ∧ Keeps σ st ∧ (∀ i, i ∈ F → σ i = none) ∧ BV w0 st b F (Lib.strCells (layT (xs.take j))) ∧ (∀ (i : Nat) (x : En), i < j → xs[i]? = some x → enB x = true) ∧
    l = [.string ⟨#[]⟩, .pointer (some ⟨b, 0, none⟩), v, .int .i64 (xs.length : Nat), .int .i64 (j : Nat)]) ?_ ⟨0, [b], by omega, kb, fun i hi => by rw [List.mem_singleton.1 hi]; exact hb2, hB0, fun i x h => by omega, rfl⟩
  rintro m l st L ⟨j, F, hm, ks, hF, hB, ht, rfl⟩ hL
  simp only [vget, List.getD_cons_zero, List.getD_cons_succ]
  have hst := h.mono ks.le fun es x => mono_en ks.le
  have hts : (layT (xs.take j)).size ≤ 100 * (xs.take j).length := layT_size fun y hy => by
    obtain ⟨i, hi⟩ := List.getElem?_of_mem hy
    have hij : i < j := by have := (List.getElem?_eq_some_iff.1 hi).1; rw [List.length_take] at this; omega
    rw [List.getElem?_take_of_lt hij] at hi
    exact en_small (ht i y hij hi)
  rw [List.length_take] at hts
  rw [pBin_lt, pIf_d]
  refine ⟨fun hj => ?_, fun hj => ?_⟩
  · have hx := List.getElem?_eq_getElem (show j < xs.length by omega)
    generalize xs[j]'(by omega) = x at hx
    refine hst.at hx fun g hg => ?_
    have hg0 := hg
    obtain ⟨u, hu, hu2⟩ := hg
    simp only [expl, List.cons.injEq, and_true] at hu
    obtain ⟨q0, q1, q2, q3, q4⟩ := hu
    rw [pVal_5 (by rw [q0]; exact hu2.1.one) (by rw [q1]; rfl) (by rw [q2]; rfl) (by rw [q3]; rfl) (by rw [q4]; rfl)]
    refine impl_entryOk hg0 (pNotIf.2 ⟨fun e => ?_, fun e => ?_⟩)
    · have := hR st ks
      rw [layX_bad hx e] at this; exact this
    · have hsm := en_small e
      have hls := lineE_size hsm
      refine impl_line tab hg0 hsm fun s1 k1 => ?_
      have hB1 := hB.frame (k1.but_at fun i hi => (hB.dom i hi).2)
      refine write_view hB1 (by rw [Lib.strCells_length]; omega) fun F' s2 k2 hB2 hF2 => ?_
      rw [pBin_add (by omega)]
      refine hL _ _ (m - 1) (by omega) ⟨j + 1, F', by omega, ?_, fun i hi => ?_, ?_, fun i y hi he => ?_, by simp⟩
      · exact k2.old (ks.trans k1) hF
      · rcases hF2 i hi with h | h
        · exact hF i h
        · exact none_at (ks.trans k1) h
      · rw [layT_take hx, strCells_app]; exact hB2
      · by_cases e' : i = j
        · subst e'; rw [hx] at he; cases he; exact e
        · exact ht i y (by omega) he
  · have e : j = xs.length := by omega
    subst e
    rw [List.take_length] at hB hts
    have hall : allB enB xs = true := allB_iff.2 fun i x he => ht i x (List.getElem?_eq_some_iff.1 he).1 he
    show AC Tryd.prog w0 n_p_strings_Builder_Len [.pointer (some ⟨b, 0, none⟩)] st _
    refine len_view hB ?_
    rw [Lib.strCells_length, pBin_gt, pIf_d]
    refine ⟨fun hgt => ?_, fun hle => ?_⟩
    · have := hR st ks
      rw [layX, if_neg (by omega)] at this; exact this
    · have e1 : Lib.strCells (layT xs) = Lib.byteCells (bl (layT xs)) := rfl
      rw [e1] at hB
      refine string_view hB fun s2 k2 => ?_
      have e2 : (⟨(bl (layT xs)).toArray⟩ : ByteArray) = layT xs := ofL_bl _
      rw [e2]
      have := hR s2 (k2.old ks hF)
      rw [layX, if_pos ⟨hall, by omega⟩] at this; exact this

theorem law_LayerWrite (tab : Tab w0) {v : Value} {xs : List En} (h : RSl 5 REn (Av.get w0 σ) v xs) {R : Value → Vw → Prop} (hR : ∀ σ', R (.bool true) σ') : AC Tryd.prog w0 n_laws_FnExactLayerWrite [v] σ R := by
  refine ac_laws_FnExactLayerWrite ?_
  unfold vc_laws_FnExactLayerWrite
  refine szEntryS h (by omega) ?_
  rw [pBin_lt, pIf_d]
  refine ⟨fun _ => hR _, fun hb => ?_⟩
  rw [Av.left_neg] at hb
  have hlen : xs.length ≤ 1048576 := by omega
  have heach : ∀ x, x ∈ xs → x.1.length ≤ 1000000000000 := fun x hx => by
    have := sumBy_mem (f := szEn) hx
    unfold szEn at this hb
    omega
  refine toEntryS h (by omega) heach fun v1 F1 s1 k1 o1 f1 => ?_
  refine spec_LayerWrite (OSl.rel (ok_en w0) o1) (by omega) fun s2 k2 => ?_
  have K2 := k1.trans k2
  refine toEntryS (h.mono K2.le fun _ _ => mono_en K2.le) (by omega) heach fun v2 F2 s3 k3 o2 f2 => ?_
  have r2 := OSl.rel (ok_en w0) o2
  refine impl_LayerWrite tab r2 (by omega) fun s4 k4 => ?_
  rw [pBin_sne, pIf_d]
  refine ⟨fun h => absurd rfl h, fun _ => ?_⟩
  have K4 := (K2.trans k3).trans k4
  refine toEntryS (h.mono K4.le fun _ _ => mono_en K4.le) (by omega) heach fun v3 F3 s5 k5 o3 f3 => ?_
  have K5 := k4.trans k5
  refine eqEntryS (r2.mono K5.le fun _ _ => mono_en K5.le) (OSl.rel (ok_en w0) o3) ?_
  rw [pUn_not, pIf_b]
  exact ⟨fun h => by simp at h, fun _ => hR _⟩
end
end Go.Proofs.YtlbpnfhhoalenaaDoor

/- The law FnExactLayerWrite holds: it returns true, and the input reads as it did. No condition. -/
namespace Go.Proofs.YtlbpnfhhoalenaaDoor.fnExactLayerWrite
open Go.ChangeShapes Go.WideShapes Go.ChangeAt Go.RowKit Go.Av
set_option linter.unusedVariables false
set_option linter.unusedSimpArgs false
theorem own : ownKnob Tryd.prog.godebug = none := by kernel_rfl
theorem laidOut : laidOutB Tryd.prog = true := by kernel_rfl
abbrev laidL : List (String × DataW Unit) := [("math/bits.deBruijn32tab", Rows.laid_math_bits_deBruijn32tab), ("math/bits.deBruijn64tab", Rows.laid_math_bits_deBruijn64tab), ("internal/strconv.uint64pow10", Rows.laid_internal_strconv_uint64pow10)]
theorem door_met (os : Os) (args : Array Value) : laidMetH Tryd.prog laidL ((World.doorLaid Tryd.prog 400 os).forCall (fun _ _ => 0) ⟨#[], args, []⟩).memory :=
  laidMetH_of_parts3 (fuel := 8) (laidMet_of_run' 8 (by kernel_rfl) (by kernel_rfl)) (by kernel_rfl) (by kernel_rfl)
theorem gPow : Tryd.prog.globalNamed "internal/strconv.uint64pow10" = some 3 := by kernel_rfl
theorem tab_of {W : World} (h : laidMetH Tryd.prog laidL W) : Tab W := by
  rw [MakeChecks.laidMetH_plain _ _ _ (by kernel_rfl)] at h
  have h3 := laidMet.tail (laidMet.tail h)
  have e : (Rows.laid_internal_strconv_uint64pow10 : DataW Unit) = Lib.tabData .u64 Lib.pow10Tab := by kernel_rfl
  rw [e] at h3
  have ht : Lib.TabIs Tryd.prog W "internal/strconv.uint64pow10" .u64 Lib.pow10Tab := Lib.tabIs_of_head (n := 20) (t := 159) (e := 144) gPow (by kernel_rfl) (by kernel_rfl) (by kernel_rfl) (by kernel_rfl) (by kernel_rfl) h3
  intro w hw
  refine var?_below hw gPow ?_ ht
  rcases Nat.lt_or_ge 3 W.heap.size with h' | h'
  · exact h'
  · simp [Lib.TabIs, World.var?, gPow, Array.getElem?_eq_none h'] at ht
set_option maxRecDepth 100000 in
theorem lifted (os : Os) (started : os.Started) (H : Type) (enc : TypeId × Value → H) :
    ReturnsInHanded {} Tryd.checked os 4 .any (fun w args => (Rows.fnExactLayerWriteSpec.pre enc Tryd.prog Tryd.f4 [] false w args ∧ laidMetH Tryd.prog laidL w) ∧ sizedMet enc Tryd.prog Tryd.f4 (OpenSpec.ofChange Rows.fnExactLayerWriteSpec) false w args)
      (Rows.fnExactLayerWriteSpec.post enc Tryd.prog Tryd.f4 false true false false) := by
  refine returnsInHanded_of_change_and (C := Tryd.checked) (X := fun w _ => laidMetH Tryd.prog laidL w) (fun _ _ _ hh h => h.of_heap hh) own started (by kernel_rfl) Tryd.func4
    (ChangeSpec.witness_shaped (enc := enc) (C := Tryd.checked) (os := os) (X := fun w _ => laidMetH Tryd.prog laidL w) false (World.doorLaid Tryd.prog 400 os) #[.slice none 0 0] 8 rfl (World.shaped_of_RefB (by kernel_rfl) (by kernel_rfl)) (by kernel_rfl) (by kernel_rfl) (by kernel_rfl) (door_met os _)) ?_
  intro W base args ds gs before hval0 hW _ _ hL _
  have hval : ∀ (j : Nat) t v, Tryd.f4.params[j]? = some t → args[j]? = some v → Value.okWide Tryd.prog W .any base t v := hval0
  have hW' := hW
  obtain ⟨p, q, hA0, hV, rfl, hfz, hnd⟩ := hW
  have hA : DataW.TrodAll enc Tryd.prog W 0 (fun _ => true) true Tryd.f4.params.toList args.toList ds p := hA0
  rw [Tryd.params4] at hA hval
  obtain ⟨v0, d0, rfl, rfl, h0⟩ := trodAll_one hA
  obtain ⟨rfl, rfl⟩ := trodVars_none hV
  obtain ⟨A0, len0, cap0, rfl⟩ := okWide_slice (t := 34) (e := 67) (by kernel_rfl) (hval 0 34 v0 rfl rfl)
  have h0k := h0
  obtain ⟨fuel0, hf0⟩ := h0
  clear hA0 hval0
  simp only [List.append_nil] at hW'
  have hlt : ∀ x ∈ p, x.block < W.heap.size := fun x hx => by simpa using hW'.lt x hx
  have hargs0 : ∀ (W' : World), Below W.heap.size W W' → DataW.Trod enc Tryd.prog W' 0 (fun b => decide (b < W.heap.size)) true 34 (.slice A0 len0 cap0) d0 p :=
    fun W' hn => Below.trod laidOut (by kernel_rfl) (of_decide_eq_true (by kernel_rfl)) h0k hn hlt
  obtain ⟨u0, x0, hu0, r0⟩ := open_rsl' (R := REn) (t := t_s_laws_Entry) (e := t_laws_Entry) (n := 5) (by kernel_rfl) (by kernel_rfl) (fun m es y _ h hl => open_entry m es y h hl) hf0
  have hu0' : u0 = .slice A0 len0 cap0 := by
    have : [Value.slice A0 len0 cap0] = [u0] := hu0
    cases this; rfl
  subst hu0'
  refine ((law_LayerWrite (tab_of hL) (R := fun v _ => v = .bool true) r0 (by intros; rfl)).calls).mono fun e W' ⟨v, σ', he, hv, bel⟩ => ?_
  subst he hv
  exact ⟨_, rfl, _, _, _, [], _, [], hW', trodAll_mk1 (shut_bool Tryd.underlying4 _), trodAll_mk1 (hargs0 W' bel), rfl, bel.frame _, fun h => by cases h⟩
theorem over : Rows.fnExactLayerWriteRow.holds Tryd.pinned (OpenSpec.ofChange Rows.fnExactLayerWriteSpec) :=
  OpenClaim.holds_of_wide 4 Tryd.f4 rfl rfl rfl rfl rfl rfl rfl ⟨rfl, rfl, rfl, rfl, rfl⟩ rfl rfl rfl rfl rfl (by kernel_rfl) Tryd.func4 (by kernel_rfl)
    (of_decide_eq_true (by kernel_rfl)) (by unfold Func.isWrapper; first | (rw [if_pos (by decide +kernel)]; kernel_rfl) | (rw [if_neg (by decide +kernel)]; exact ⟨rfl, rfl⟩))
    (fun os started H enc _ => lifted os started H enc)
/-- THE TIED CARD. -/
theorem proved : Rows.FnExactLayerWriteCardSaid :=
  Claim7.holds_tied_plain_at .later [] [.data, .data, .data] true (true, "2dc6f0fa5595edc2491c4221c017d3846401702a22fd5fbb65ca198d9e99bf2b") true
    over (fun _ h => by cases h) (by kernel_rfl) (fun _ h => by cases h) fnExactLayerWrite_row_tie rfl ⟨rfl, rfl⟩ (by kernel_rfl) rfl
    (fun f fn hf hfn => by
      obtain rfl : f = 4 := Option.some.inj ((show Tryd.prog.funcNamed "loop.example/changetrail/laws.FnExactLayerWrite" = some 4 by kernel_rfl).symm.trans hf) |>.symm
      obtain rfl : fn = Tryd.f4 := (Option.some.inj (Tryd.func4.symm.trans hfn)).symm
      exact ⟨by kernel_rfl, fun j t ht => by
        rw [Tryd.params4] at ht
        have hm : t ∈ [34] := by simpa using Array.mem_of_getElem? ht
        have hall : ([34].all fun u => !Tryd.prog.wantsStandIn u) = true := by kernel_rfl
        exact (show Tryd.prog.wantsStandIn t = false by simpa using List.all_eq_true.1 hall t hm)⟩)
    (by kernel_rfl)
end Go.Proofs.YtlbpnfhhoalenaaDoor.fnExactLayerWrite
namespace Go.Proofs.YtlbpnfhhoalenaaDoor
/-- The row, under a short name, for the claim. -/
theorem fnExactLayerWrite_holds : Rows.FnExactLayerWriteCardSaid := fnExactLayerWrite.proved
end Go.Proofs.YtlbpnfhhoalenaaDoor
