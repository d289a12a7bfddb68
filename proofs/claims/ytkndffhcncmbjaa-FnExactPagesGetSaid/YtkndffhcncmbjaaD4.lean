/- Lists that grow by append, in a row of our own; elements that need no row; elements that are read in what is older. -/
import Derived.Test.YtkndffhcncmbjaaD3
import Derived.Test.YtkndffhcncmbjaaB5
set_option linter.unusedVariables false
set_option linter.unusedSimpArgs false
namespace Go.Av
open Go Go.RowKit

section
variable {P : Program} {w0 : World} {σ σ' : Vw} {α : Type}

/-! ### Elements that are read by a reader that is fixed -/
def RB (Rel : (Addr → Option Value) → List Value → α → Prop) (rd0 : Addr → Option Value) (rd : Addr → Option Value) (es : List Value) (x : α) : Prop := Rel rd0 es x
def OB (Rel : (Addr → Option Value) → List Value → α → Prop) (rd0 : Addr → Option Value) (σ : Vw) (F : List Nat) (es : List Value) (x : α) : Prop := F = [] ∧ Rel rd0 es x
/-- What a rule of reading must keep. -/
structure ROk (n : Nat) (Rel : (Addr → Option Value) → List Value → α → Prop) : Prop where
  mono : ∀ rd rd' es x, Le rd rd' → Rel rd es x → Rel rd' es x
  len : ∀ rd es x, Rel rd es x → es.length = n
  one : ∀ rd es x, Rel rd es x → ∀ c, c ∈ es → c.oneCell' = true
theorem ok_base {n : Nat} {Rel : (Addr → Option Value) → List Value → α → Prop} (ok : ROk n Rel) (w0 : World) (rd0 : Addr → Option Value) : OOk w0 n (RB Rel rd0) (OB Rel rd0) := by
  refine ⟨?_, ?_, ?_, ?_, ?_, ?_⟩
  · rintro σ F es x ⟨_, h⟩; exact h
  · rintro σ σ' F es x h _; exact h
  · rintro σ F es x ⟨rfl, _⟩ b hb; cases hb
  · rintro σ F es x ⟨rfl, _⟩; exact List.nodup_nil
  · rintro σ F es x ⟨_, h⟩; exact ok.len _ _ _ h
  · rintro σ F es x ⟨_, h⟩; exact ok.one _ _ _ h
theorem RSl.unbase {n : Nat} {Rel : (Addr → Option Value) → List Value → α → Prop} (ok : ROk n Rel) {rd0 rd : Addr → Option Value} {v : Value} {xs : List α} (h : RSl n (RB Rel rd0) rd v xs) (hle : Le rd0 rd) : RSl n Rel rd v xs :=
  h.imp fun es x hx => ok.mono _ _ _ _ hle hx

/-! ### Elements that need no row -/
def RFl (enc : α → List Value) (good : α → Prop) (rd : Addr → Option Value) (es : List Value) (x : α) : Prop := es = enc x ∧ good x
def OFl (enc : α → List Value) (good : α → Prop) (σ : Vw) (F : List Nat) (es : List Value) (x : α) : Prop := F = [] ∧ es = enc x ∧ good x
theorem rok_fl {n : Nat} {enc : α → List Value} {good : α → Prop} (hl : ∀ x, (enc x).length = n) (ho : ∀ x c, c ∈ enc x → c.oneCell' = true) : ROk n (RFl enc good) :=
  ⟨fun _ _ _ _ _ h => h, fun _ _ x h => by rw [h.1]; exact hl x, fun _ _ x h => by rw [h.1]; exact ho x⟩
theorem ok_fl {n : Nat} {enc : α → List Value} {good : α → Prop} (hl : ∀ x, (enc x).length = n) (ho : ∀ x c, c ∈ enc x → c.oneCell' = true) (w0 : World) : OOk w0 n (RFl enc good) (OFl enc good) := by
  refine ⟨?_, ?_, ?_, ?_, ?_, ?_⟩
  · rintro σ F es x ⟨_, h⟩; exact h
  · rintro σ σ' F es x h _; exact h
  · rintro σ F es x ⟨rfl, _⟩ b hb; cases hb
  · rintro σ F es x ⟨rfl, _⟩; exact List.nodup_nil
  · rintro σ F es x ⟨_, h, _⟩; rw [h]; exact hl x
  · rintro σ F es x ⟨_, h, _⟩; rw [h]; exact ho x

/-! ### Growing lists -/
def OAcc (w0 : World) (ety n : Nat) (O : Vw → List Nat → List Value → α → Prop) (σ : Vw) (F : List Nat) (v : Value) (xs : List α) : Prop :=
  xs.length ≤ 9223372036854775807 ∧ F.Nodup ∧ ((v = .slice none 0 0 ∧ xs = [] ∧ F = []) ∨
  ∃ (b cap : Nat) (css : List (List Value)) (Fs : List (List Nat)), v = .slice (some ⟨b, 0, none⟩) xs.length cap ∧ (xs.length ≤ cap ∧ cap ≤ 9223372036854775807) ∧ w0.heap.size ≤ b ∧ σ b = some ⟨ety, css.flatten, cap * n, (0, 0)⟩ ∧
    css.length = xs.length ∧ Fs.length = xs.length ∧ F = b :: Fs.flatten ∧ ∀ (j : Nat) (c : List Value) (x : α) (f : List Nat), css[j]? = some c → xs[j]? = some x → Fs[j]? = some f → O σ f c x)

theorem OAcc.osl {ety n : Nat} {O : Vw → List Nat → List Value → α → Prop} {F : List Nat} {v : Value} {xs : List α} (h : OAcc w0 ety n O σ F v xs) : OSl w0 n O σ F v xs := by
  obtain ⟨h1, h2, h3 | ⟨b, cap, css, Fs, g1, g2, g3, g4, g5, g6, g7, g8⟩⟩ := h
  · exact ⟨h1, h2, .inl h3⟩
  · exact ⟨h1, h2, .inr ⟨b, 0, cap, _, [], [], css, Fs, g1, g2, g3, g4, by simp, rfl, g5, g6, g7, g8⟩⟩
theorem OAcc.frame {ety n : Nat} {Rel : (Addr → Option Value) → List Value → α → Prop} {O : Vw → List Nat → List Value → α → Prop} (ok : OOk w0 n Rel O) {F : List Nat} {v : Value} {xs : List α} (h : OAcc w0 ety n O σ F v xs) (hF : ∀ b, b ∈ F → σ' b = σ b) : OAcc w0 ety n O σ' F v xs := by
  obtain ⟨h1, h2, h3 | ⟨b, cap, css, Fs, g1, g2, g3, g4, g5, g6, g7, g8⟩⟩ := h
  · exact ⟨h1, h2, .inl h3⟩
  · refine ⟨h1, h2, .inr ⟨b, cap, css, Fs, g1, g2, g3, by rw [hF b (by rw [g7]; exact List.mem_cons_self)]; exact g4, g5, g6, g7, fun j c x f e1 e2 e3 => ?_⟩⟩
    refine ok.frame _ _ _ _ _ (g8 j c x f e1 e2 e3) fun i hi => hF i ?_
    rw [g7]
    exact List.mem_cons_of_mem _ (List.mem_flatten.2 ⟨f, List.mem_of_getElem? e3, hi⟩)
theorem OAcc.dom {ety n : Nat} {Rel : (Addr → Option Value) → List Value → α → Prop} {O : Vw → List Nat → List Value → α → Prop} (ok : OOk w0 n Rel O) {F : List Nat} {v : Value} {xs : List α} (h : OAcc w0 ety n O σ F v xs) : ∀ b, b ∈ F → w0.heap.size ≤ b ∧ σ b ≠ none := h.osl.dom ok
theorem OAcc.nil {ety n : Nat} {O : Vw → List Nat → List Value → α → Prop} : OAcc w0 ety n O σ [] (.slice none 0 0) [] := ⟨by simp, by simp, .inl ⟨rfl, rfl, rfl⟩⟩
theorem OAcc.new {ety n b : Nat} {O : Vw → List Nat → List Value → α → Prop} (hb : w0.heap.size ≤ b) : OAcc w0 ety n O (σ.put b ⟨ety, [], 0, (0, 0)⟩) [b] (.slice (some ⟨b, 0, none⟩) 0 0) [] :=
  ⟨by simp, by simp, .inr ⟨b, 0, [], [], rfl, by simp, hb, by rw [put_at]; simp, rfl, rfl, rfl, fun j c x f h => by simp at h⟩⟩

theorem Keeps.but_at {F : List Nat} (h : Keeps σ σ') (hF : ∀ b, b ∈ F → σ b ≠ none) : ∀ b, b ∈ F → σ' b = σ b := fun b hb => by
  cases hs : σ b with
  | none => exact absurd hs (hF b hb)
  | some r => exact h b r hs

/-- Elements are appended, each with rows of its own. -/
theorem OAcc.push {ety n bytes m : Nat} {Rel : (Addr → Option Value) → List Value → α → Prop} {O : Vw → List Nat → List Value → α → Prop} (ok : OOk w0 n Rel O) {F : List Nat} {v : Value} {xs ys : List α} {nss : List (List Value)} {Gs : List (List Nat)} {new : List Value}
    (h : OAcc w0 ety n O σ F v xs) (hm : ys.length = m) (hnl : nss.length = m) (hGl : Gs.length = m) (hnew : new = nss.flatten) (hO : ∀ (j : Nat) (c : List Value) (y : α) (g : List Nat), nss[j]? = some c → ys[j]? = some y → Gs[j]? = some g → O σ g c y)
    (hG : Gs.flatten.Nodup) (hGF : ∀ i, i ∈ Gs.flatten → i ∉ F) (hlen : xs.length + m ≤ 1000000000000) (hbytes : bytes ≤ 140) {K : Value → Vw → Prop}
    (hK : ∀ v' F' σ', KeepsBut F σ σ' → OAcc w0 ety n O σ' F' v' (xs ++ ys) → (∀ i, i ∈ F' → i ∈ F ∨ i ∈ Gs.flatten ∨ σ i = none) → K v' σ') : pAppend w0 ety n bytes v m new σ K := by
  have hb47 : (xs.length + m) * bytes ≤ 2 ^ 47 := by
    have h1 : (xs.length + m) * bytes ≤ 1000000000000 * 140 := Nat.mul_le_mul hlen hbytes
    have h2 : (2 : Nat) ^ 47 = 140737488355328 := by decide
    omega
  have hn2 : ∀ c, c ∈ nss → c.length = n := fun c hc => by
    obtain ⟨i, hi⟩ := List.getElem?_of_mem hc
    have hil : i < nss.length := (List.getElem?_eq_some_iff.1 hi).1
    exact ok.len _ _ _ _ (hO i c _ _ hi (List.getElem?_eq_getElem (by omega)) (List.getElem?_eq_getElem (by omega)))
  have hnewl : new.length = m * n := by rw [hnew, flat_len _ hn2, hnl]
  have hGdom : ∀ i, i ∈ Gs.flatten → σ i ≠ none := fun i hi => by
    obtain ⟨j, f, e1, e2⟩ := mem_flat hi
    have hj : j < Gs.length := (List.getElem?_eq_some_iff.1 e1).1
    exact (ok.dom _ _ _ _ (hO j _ _ f (List.getElem?_eq_getElem (by omega)) (List.getElem?_eq_getElem (by omega)) e1) i e2).2
  obtain ⟨h1, h2, ⟨rfl, rfl, rfl⟩ | ⟨b, cap, css, Fs, rfl, g2, g3, g4, g5, g6, g7, g8⟩⟩ := h
  · refine .inr ⟨0, [], ⟨by simp, .inl ⟨rfl, rfl⟩⟩, hnewl, by simpa using (by omega : m ≤ 9223372036854775807), by simpa using hb47, fun v' σ' hg => ?_⟩
    rcases hg with ⟨rfl, rfl, _, h0, _⟩ | ⟨b', c', rfl, g1, g2, rfl, g3, g4⟩
    · have : m = 0 := by omega
      subst this
      have hy : ys = [] := List.length_eq_zero_iff.1 hm
      subst hy
      exact hK _ [] _ (KeepsBut.refl _ _) (by simpa using OAcc.nil) (fun i hi => by cases hi)
    · have hb' : σ b' = none := by
        rcases g4 with h | ⟨n0, c0, h⟩
        · exact h
        · cases h
      have hbG : b' ∉ Gs.flatten := fun hi => hGdom b' hi hb'
      refine hK _ (b' :: Gs.flatten) _ (Keeps.put hb').but ?_ fun i hi => ?_
      · refine ⟨by simp; omega, List.nodup_cons.2 ⟨hbG, hG⟩, .inr ⟨b', c', nss, Gs, by simp [hm], by simp [hm]; omega, g3, by rw [put_at]; simp [hnew], by simp [hm, hnl], by simp [hm, hGl], rfl, fun j c x f e1 e2 e3 => ?_⟩⟩
        simp only [List.nil_append] at e2
        refine ok.frame _ _ _ _ _ (hO j c x f e1 e2 e3) fun i hi => ?_
        have : i ≠ b' := fun e => hbG (e ▸ List.mem_flatten.2 ⟨f, List.mem_of_getElem? e3, hi⟩)
        simp [Vw.put, this]
      · rcases List.mem_cons.1 hi with e | e
        · rw [e]; exact .inr (.inr hb')
        · exact .inr (.inl e)
  · have hn1 : ∀ c, c ∈ css → c.length = n := fun c hc => by
      obtain ⟨i, hi⟩ := List.getElem?_of_mem hc
      have hil : i < css.length := (List.getElem?_eq_some_iff.1 hi).1
      exact ok.len _ _ _ _ (g8 i c _ _ hi (List.getElem?_eq_getElem (by omega)) (List.getElem?_eq_getElem (by omega)))
    rw [g7] at h2
    have hbFs : b ∉ Fs.flatten := (List.nodup_cons.1 h2).1
    have hbG : b ∉ Gs.flatten := fun hi => hGF b hi (by rw [g7]; exact List.mem_cons_self)
    have hFsdom : ∀ i, i ∈ Fs.flatten → σ i ≠ none := fun i hi => by
      obtain ⟨j, f, e1, e2⟩ := mem_flat hi
      have hj : j < Fs.length := (List.getElem?_eq_some_iff.1 e1).1
      exact (ok.dom _ _ _ _ (g8 j _ _ f (List.getElem?_eq_getElem (by omega)) (List.getElem?_eq_getElem (by omega)) e1) i e2).2
    refine .inr ⟨xs.length, css.flatten, ⟨by rw [flat_len _ hn1, g5], .inr ⟨b, cap, rfl, g4, g2.1, g2.2⟩⟩, hnewl, by omega, hb47, fun v' σ' hg => ?_⟩
    rcases hg with ⟨rfl, rfl, h, _⟩ | ⟨b', c', rfl, k1, k2, rfl, k3, k4⟩
    · cases h
    · have hb' : b' ∉ Fs.flatten ∧ b' ∉ Gs.flatten ∧ (b' = b ∨ σ b' = none) := by
        rcases k4 with h | ⟨n0, c0, h⟩
        · exact ⟨fun hi => hFsdom b' hi h, fun hi => hGdom b' hi h, .inr h⟩
        · cases h; exact ⟨hbFs, hbG, .inl rfl⟩
      refine hK _ (b' :: (Fs ++ Gs).flatten) _ ?_ ?_ fun i hi => ?_
      · rcases hb'.2.2 with rfl | h
        · exact KeepsBut.put (by rw [g7]; exact List.mem_cons_self)
        · exact (Keeps.put h).but
      · refine ⟨by simp; omega, ?_, .inr ⟨b', c', css ++ nss, Fs ++ Gs, by simp [hm], by simp [hm]; omega, k3, by rw [put_at, hnew]; simp, by simp [hm, hnl, g5], by simp [hm, hGl, g6], rfl, fun j c x f e1 e2 e3 => ?_⟩⟩
        · rw [List.flatten_append, List.nodup_cons]
          refine ⟨fun hi => ?_, List.nodup_append.2 ⟨(List.nodup_cons.1 h2).2, hG, fun a ha d hd e => hGF d hd (by rw [g7, ← e]; exact List.mem_cons_of_mem _ ha)⟩⟩
          rcases List.mem_append.1 hi with h | h
          · exact hb'.1 h
          · exact hb'.2.1 h
        · have hput : ∀ i, i ≠ b' → (σ.put b' ⟨ety, css.flatten ++ new, c' * n, (0, 0)⟩) i = σ i := fun i hi => by simp [Vw.put, hi]
          by_cases hj : j < xs.length
          · rw [List.getElem?_append_left (by omega)] at e1 e2 e3
            exact ok.frame _ _ _ _ _ (g8 j c x f e1 e2 e3) fun i hi => hput i fun e => hb'.1 (e ▸ List.mem_flatten.2 ⟨f, List.mem_of_getElem? e3, hi⟩)
          · rw [List.getElem?_append_right (by omega)] at e1 e2 e3
            rw [g5] at e1; rw [g6] at e3
            exact ok.frame _ _ _ _ _ (hO _ c x f e1 e2 e3) fun i hi => hput i fun e => hb'.2.1 (e ▸ List.mem_flatten.2 ⟨f, List.mem_of_getElem? e3, hi⟩)
      · rw [g7]
        rcases List.mem_cons.1 hi with e | e
        · rw [e]
          rcases hb'.2.2 with rfl | h
          · exact .inl List.mem_cons_self
          · exact .inr (.inr h)
        · rw [List.flatten_append] at e
          rcases List.mem_append.1 e with h | h
          · exact .inl (List.mem_cons_of_mem _ h)
          · exact .inr (.inl h)

/-- One element is appended. -/
theorem OAcc.one {ety n bytes : Nat} {Rel : (Addr → Option Value) → List Value → α → Prop} {O : Vw → List Nat → List Value → α → Prop} (ok : OOk w0 n Rel O) {F f : List Nat} {v : Value} {xs : List α} {y : α} {es : List Value}
    (h : OAcc w0 ety n O σ F v xs) (hy : O σ f es y) (hf : ∀ i, i ∈ f → i ∉ F) (hlen : xs.length + 1 ≤ 1000000000000) (hbytes : bytes ≤ 140) {K : Value → Vw → Prop}
    (hK : ∀ v' F' σ', KeepsBut F σ σ' → OAcc w0 ety n O σ' F' v' (xs ++ [y]) → (∀ i, i ∈ F' → i ∈ F ∨ i ∈ f ∨ σ i = none) → K v' σ') : allOne es ∧ pAppend w0 ety n bytes v 1 es σ K := by
  refine ⟨ok.one _ _ _ _ hy, ?_⟩
  refine h.push ok (ys := [y]) (nss := [es]) (Gs := [f]) rfl rfl rfl (by simp) (fun j c z g e1 e2 e3 => ?_) (by simpa using ok.nodup _ _ _ _ hy) (by simpa using hf) hlen hbytes (by simpa using hK)
  cases j with
  | zero => simp at e1 e2 e3; subst e1 e2 e3; exact hy
  | succ j => simp at e1

/-- All elements of a list that is read are appended; they need no rows of their own. -/
theorem OAcc.all {ety n bytes : Nat} {Rel Rel0 : (Addr → Option Value) → List Value → α → Prop} {O : Vw → List Nat → List Value → α → Prop} (ok : OOk w0 n Rel O) {rd0 : Addr → Option Value} {F : List Nat} {v s : Value} {xs ys : List α}
    (h : OAcc w0 ety n O σ F v xs) (hs : RSl n Rel0 rd0 s ys) (hle : Le rd0 (Av.get w0 σ)) (hO : ∀ es y, Rel0 rd0 es y → O σ [] es y) (hlen : xs.length + ys.length ≤ 1000000000000) (hbytes : bytes ≤ 140) {K : Value → Vw → Prop}
    (hK : ∀ v' F' σ', KeepsBut F σ σ' → OAcc w0 ety n O σ' F' v' (xs ++ ys) → (∀ i, i ∈ F' → i ∈ F ∨ σ i = none) → K v' σ') : pAppendS w0 ety n bytes v s σ K := by
  obtain ⟨A, cap, rfl, hc, hel⟩ := hs
  obtain ⟨css, hcl, hcs⟩ := listOf (fun i (c : List Value) => ∃ a y, A = some a ∧ ys[i]? = some y ∧ c.length = n ∧ (∀ k, k < n → rd0 (a.add (i * n + k)) = c[k]?) ∧ Rel0 rd0 c y) ys.length (fun i hi => by
    obtain ⟨a, es, h1, h2, h3, h4⟩ := hel i _ (List.getElem?_eq_getElem hi)
    exact ⟨es, a, _, h1, List.getElem?_eq_getElem hi, h2, h3, h4⟩)
  have hn : ∀ c, c ∈ css → c.length = n := fun c hc => by
    obtain ⟨i, hi⟩ := List.getElem?_of_mem hc
    obtain ⟨_, _, _, _, h, _⟩ := hcs i c hi
    exact h
  refine ⟨A, ys.length, cap, css.flatten, rfl, by rw [flat_len _ hn, hcl], ?_, ?_, ?_⟩
  · intro c hc
    obtain ⟨es, he, hce⟩ := List.mem_flatten.1 hc
    obtain ⟨i, hi⟩ := List.getElem?_of_mem he
    obtain ⟨a, y, _, _, _, _, hR⟩ := hcs i es hi
    exact ok.one _ _ _ _ (hO _ _ hR) c hce
  · intro j hj
    rw [flat_len _ hn, hcl] at hj
    have hn0 : 0 < n := by
      rcases Nat.eq_zero_or_pos n with e | e
      · subst e; omega
      · exact e
    have hq : j / n < css.length := by rw [hcl]; exact (Nat.div_lt_iff_lt_mul hn0).2 hj
    obtain ⟨a, y, hA, hy, hl, hk, hR⟩ := hcs (j / n) _ (List.getElem?_eq_getElem hq)
    have hr : j % n < n := Nat.mod_lt _ hn0
    have hdm : j / n * n + j % n = j := by rw [Nat.mul_comm]; exact Nat.div_add_mod j n
    refine ⟨a, hA, ?_⟩
    have e1 := flat_get css hn (j / n) _ (List.getElem?_eq_getElem hq) (j % n) hr
    rw [hdm] at e1
    have e2 := hk (j % n) hr
    rw [hdm, ← e1] at e2
    have hj' : j < css.flatten.length := by rw [flat_len _ hn, hcl]; exact hj
    rw [List.getElem?_eq_getElem hj'] at e2
    exact hle _ _ e2
  · refine h.push ok (ys := ys) (nss := css) (Gs := List.replicate ys.length []) rfl hcl (by simp) rfl (fun j c y g e1 e2 e3 => ?_) (by simp) (by simp) hlen hbytes (by simpa using hK)
    obtain ⟨a, y', _, hy, _, _, hR⟩ := hcs j c e1
    rw [e2] at hy; cases hy
    rw [List.getElem?_replicate] at e3
    split at e3
    · cases e3; exact hO _ _ hR
    · cases e3

/-- All elements of a list of our own are appended, with their rows. -/
theorem OAcc.allOwn {ety n bytes : Nat} {Rel : (Addr → Option Value) → List Value → α → Prop} {O : Vw → List Nat → List Value → α → Prop} (ok : OOk w0 n Rel O) {F G : List Nat} {v s : Value} {xs ys : List α}
    (h : OAcc w0 ety n O σ F v xs) (hs : OSl w0 n O σ G s ys) (hGF : ∀ i, i ∈ G → i ∉ F) (hlen : xs.length + ys.length ≤ 1000000000000) (hbytes : bytes ≤ 140) {K : Value → Vw → Prop}
    (hK : ∀ v' F' σ', KeepsBut F σ σ' → OAcc w0 ety n O σ' F' v' (xs ++ ys) → (∀ i, i ∈ F' → i ∈ F ∨ i ∈ G ∨ σ i = none) → K v' σ') : pAppendS w0 ety n bytes v s σ K := by
  obtain ⟨s1, s2, ⟨rfl, rfl, rfl⟩ | ⟨b, off, cap, r, pre, post, css, Gs, rfl, gc, g2, g3, g4, g5, g6, g7, g8, g9⟩⟩ := hs
  · refine ⟨none, 0, 0, [], rfl, by simp, by simp, fun j hj => by simp at hj, ?_⟩
    exact h.push ok (ys := []) (nss := []) (Gs := []) rfl rfl rfl rfl (fun j c y g e1 => by simp at e1) (by simp) (by simp) (by simpa using hlen) hbytes (by simpa using hK)
  · have hn : ∀ c, c ∈ css → c.length = n := fun c hc => by
      obtain ⟨i, hi⟩ := List.getElem?_of_mem hc
      have hil : i < css.length := (List.getElem?_eq_some_iff.1 hi).1
      exact ok.len _ _ _ _ (g9 i c _ _ hi (List.getElem?_eq_getElem (by omega)) (List.getElem?_eq_getElem (by omega)))
    rw [g8] at s2
    refine ⟨_, ys.length, cap, css.flatten, rfl, by rw [flat_len _ hn, g6], ?_, ?_, ?_⟩
    · intro c hc
      obtain ⟨es, he, hce⟩ := List.mem_flatten.1 hc
      obtain ⟨i, hi⟩ := List.getElem?_of_mem he
      have hil : i < css.length := (List.getElem?_eq_some_iff.1 hi).1
      exact ok.one _ _ _ _ (g9 i es _ _ hi (List.getElem?_eq_getElem (by omega)) (List.getElem?_eq_getElem (by omega))) c hce
    · intro j hj
      refine ⟨_, rfl, ?_⟩
      rw [addr_add, get_row g2 g3, g4, List.getElem?_append_right (by omega), List.getElem?_append_left (by omega), ← List.getElem?_eq_getElem hj]
      congr 1; omega
    · refine h.push ok (ys := ys) (nss := css) (Gs := Gs) rfl g6 g7 rfl g9 (List.nodup_cons.1 s2).2 (fun i hi => hGF i (by rw [g8]; exact List.mem_cons_of_mem _ hi)) hlen hbytes fun v' F' σ' k1 k2 k3 => hK v' F' σ' k1 k2 fun i hi => ?_
      rcases k3 i hi with h | h | h
      · exact .inl h
      · exact .inr (.inl (by rw [g8]; exact List.mem_cons_of_mem _ h))
      · exact .inr (.inr h)
end
end Go.Av
