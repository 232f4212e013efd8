/-
  Rows of elements in memory, element by element, that stand while nothing old is written. No program.
-/
import Derived.Test.YtmgkoocpnakanaaL
import Derived.Test.YtmgkoocpnakanaaOwn
import Derived.Test.YtmgkoocpnakanaaArg
namespace Go.Proofs.Ytmgkoocpnakanaa.W
open Go.RowKit
set_option linter.unusedVariables false

def I64 (x : Int) : Prop := -9223372036854775808 ≤ x ∧ x ≤ 9223372036854775807
def lenR (n : Nat) : Prop := n ≤ 140737488351232

/-- what an element's cells say stands while the old blocks stand -/
def Stays {α : Type} (E : World → List Value → α → Prop) : Prop := ∀ w w' cs x, Below w.heap.size w w' → E w cs x → E w' cs x

/-- a slice of elements of m cells -/
structure Rw {α : Type} (m : Nat) (E : World → List Value → α → Prop) (w : World) (v : Value) (xs : List α) : Prop where
  is : (xs = [] ∧ (v = .slice none 0 0 ∨ ∃ a c, v = .slice (some a) 0 c)) ∨ (∃ g o cap, v = .slice (some ⟨g, o, none⟩) xs.length cap ∧ g < w.heap.size ∧
    ∀ j x, xs[j]? = some x → ∃ cs, cs.length = m ∧ E w cs x ∧ ∀ i u, cs[i]? = some u → w.cell? ⟨g, o + j * m + i, none⟩ = some u)

variable {α : Type} {m : Nat} {E : World → List Value → α → Prop} {w w' : World} {v : Value} {xs : List α}

theorem Rw.nil (w : World) : Rw m E w (.slice none 0 0) [] := ⟨.inl ⟨rfl, .inl rfl⟩⟩

theorem Rw.slice (h : Rw m E w v xs) : ∃ p c, v = .slice p xs.length c := by
  rcases h.is with ⟨rfl, rfl | ⟨a, c, rfl⟩⟩ | ⟨g, o, cap, rfl, _⟩
  · exact ⟨none, 0, rfl⟩
  · exact ⟨some a, c, rfl⟩
  · exact ⟨_, cap, rfl⟩

theorem Rw.below (h : Rw m E w v xs) (hE : Stays E) (hb : Below w.heap.size w w') : Rw m E w' v xs := by
  refine ⟨h.is.imp_right ?_⟩
  rintro ⟨g, o, cap, e, hg, hc⟩
  refine ⟨g, o, cap, e, Nat.lt_of_lt_of_le hg hb.size, fun j x hx => ?_⟩
  obtain ⟨cs, h1, h2, h3⟩ := hc j x hx
  exact ⟨cs, h1, hE w w' cs x hb h2, fun i u hu => by rw [hb.cell (p := ⟨g, o + j * m + i, none⟩) hg]; exact h3 i u hu⟩

theorem Stays.row {m : Nat} {E : World → List Value → α → Prop} (hE : Stays E) : Stays (fun w cs (xs : List α) => ∃ v, cs = [v] ∧ Rw m E w v xs) := by
  rintro w w' cs x hb ⟨v, rfl, h⟩
  exact ⟨v, rfl, h.below hE hb⟩

/-- an element's cells -/
theorem Rw.at (h : Rw m E w v xs) {p : Option Addr} {n c : Nat} (hv : v = .slice p n c) {j : Nat} (hj : j < xs.length) :
    ∃ g o cs, p = some ⟨g, o, none⟩ ∧ g < w.heap.size ∧ cs.length = m ∧ E w cs xs[j] ∧ ∀ i u, cs[i]? = some u → w.cell? ⟨g, o + j * m + i, none⟩ = some u := by
  rcases h.is with ⟨rfl, _⟩ | ⟨g, o, cap, e, hg, hc⟩
  · simp at hj
  · rw [hv] at e
    injection e with e1 _ _
    obtain ⟨cs, h1, h2, h3⟩ := hc j _ (List.getElem?_eq_getElem hj)
    exact ⟨g, o, cs, e1, hg, h1, h2, h3⟩

/-- the first n elements -/
theorem Rw.take (h : Rw m E w v xs) {p : Option Addr} {l c n : Nat} (hv : v = .slice p l c) (hn : n ≤ xs.length) : Rw m E w (.slice p n c) (xs.take n) := by
  rcases h.is with ⟨rfl, h0⟩ | ⟨g, o, cap, e, hg, hc⟩
  · have : n = 0 := by simpa using hn
    subst this
    rcases h0 with h0 | ⟨a, c', h0⟩
    · rw [hv] at h0; injection h0 with e1 e2 e3; subst e1; subst e3; exact ⟨.inl ⟨by simp, .inl rfl⟩⟩
    · rw [hv] at h0; injection h0 with e1 e2 e3; subst e1; subst e3; exact ⟨.inl ⟨by simp, .inr ⟨a, c, rfl⟩⟩⟩
  · rw [hv] at e
    injection e with e1 e2 e3
    subst e1; subst e3
    exact ⟨.inr ⟨g, o, c, by rw [List.length_take, Nat.min_eq_left hn], hg, fun j x hx => hc j x (by rw [List.getElem?_take] at hx; split at hx; exact hx; cases hx)⟩⟩

/-- a row that the call owns reads so -/
theorem Rw.of_own {B : Nat} {e : TypeId} {us : List Value} {xs : List α} (h : Own w B e v us) (hl : us.length = xs.length) (hE : ∀ (j : Nat) x u, xs[j]? = some x → us[j]? = some u → E w [u] x) : Rw 1 E w v xs := by
  rcases h.is with ⟨rfl, rfl⟩ | ⟨g, cap, rfl, hg, hn, hm, ⟨cur, fz, hb, _⟩, hc, _⟩
  · have : xs = [] := List.eq_nil_of_length_eq_zero hl.symm
    exact ⟨.inl ⟨this, .inl rfl⟩⟩
  · refine ⟨.inr ⟨g, 0, cap, by rw [hl], ?_, fun j x hx => ?_⟩⟩
    · rcases Nat.lt_or_ge g w.heap.size with h' | h'
      · exact h'
      · rw [Array.getElem?_eq_none h'] at hb; cases hb
    · have hj : j < us.length := by rw [hl]; exact (List.getElem?_eq_some_iff.1 hx).1
      refine ⟨[us[j]], rfl, hE j x _ hx (List.getElem?_eq_getElem hj), fun i u hu => ?_⟩
      cases i with
      | zero =>
        rw [Nat.zero_add, Nat.mul_one, Nat.add_zero]
        exact hc j u (by rw [List.getElem?_eq_getElem hj]; simpa using hu)
      | succ i => simp at hu

/-- .. of a block that is known whole -/
theorem Rw.of_blk {g : Nat} {T : TypeId} {us : List Value} {css : List (List Value)} (hb : Blk w g T us) (hu : us = css.flatten) (hl : css.length = xs.length) (hm : ∀ cs ∈ css, cs.length = m) (hE : ∀ (j : Nat) x cs, xs[j]? = some x → css[j]? = some cs → E w cs x) {cap : Nat} : Rw m E w (.slice (some ⟨g, 0, none⟩) xs.length cap) xs := by
  refine ⟨.inr ⟨g, 0, cap, rfl, hb.lt, fun j x hx => ?_⟩⟩
  have hj : j < css.length := by rw [hl]; exact (List.getElem?_eq_some_iff.1 hx).1
  refine ⟨css[j], hm _ (List.getElem_mem hj), hE j x _ hx (List.getElem?_eq_getElem hj), fun i u hi => ?_⟩
  refine hb.at ?_
  rw [hu, Nat.zero_add]
  have key : ∀ (css : List (List Value)) (j i : Nat) (u : Value) (hj : j < css.length), (∀ cs ∈ css, cs.length = m) → (css[j])[i]? = some u → css.flatten[j * m + i]? = some u := by
    intro css
    induction css with
    | nil => intro j i u hj; simp at hj
    | cons c r ih =>
      intro j i u hj hm hu
      have hc := hm c (by simp)
      rw [List.flatten_cons]
      cases j with
      | zero =>
        have hi : i < c.length := (List.getElem?_eq_some_iff.1 hu).1
        rw [Nat.zero_mul, Nat.zero_add, List.getElem?_append_left hi]
        exact hu
      | succ j =>
        rw [List.getElem?_append_right (by rw [hc, Nat.succ_mul]; omega), hc, show (j + 1) * m + i - m = j * m + i by rw [Nat.succ_mul]; omega]
        exact ih j i u (by simpa using hj) (fun cs h => hm cs (by simp [h])) (by simpa using hu)
  exact key css j i u hj hm hi

/-- integers, strings, bools -/
def intE (w : World) (cs : List Value) (x : Int) : Prop := cs = [.int .i64 x]
def strE (w : World) (cs : List Value) (x : ByteArray) : Prop := cs = [.string x]
def boolE (w : World) (cs : List Value) (x : Bool) : Prop := cs = [.bool x]
theorem intE_stays : Stays intE := fun _ _ _ _ _ h => h
theorem strE_stays : Stays strE := fun _ _ _ _ _ h => h
theorem boolE_stays : Stays boolE := fun _ _ _ _ _ h => h

theorem Rw.of_blk1 {g : Nat} {T : TypeId} {us : List Value} (hb : Blk w g T us) (hl : us.length = xs.length) (hE : ∀ (j : Nat) x u, xs[j]? = some x → us[j]? = some u → E w [u] x) {cap : Nat} : Rw 1 E w (.slice (some ⟨g, 0, none⟩) xs.length cap) xs := by
  refine ⟨.inr ⟨g, 0, cap, rfl, hb.lt, fun j x hx => ?_⟩⟩
  have hj : j < us.length := by rw [hl]; exact (List.getElem?_eq_some_iff.1 hx).1
  refine ⟨[us[j]], rfl, hE j x _ hx (List.getElem?_eq_getElem hj), fun i u hu => ?_⟩
  cases i with
  | zero =>
    rw [Nat.zero_add, Nat.mul_one, Nat.add_zero]
    exact hb.at (by rw [List.getElem?_eq_getElem hj]; simpa using hu)
  | succ i => simp at hu
theorem Rw.ints {g : Nat} {T : TypeId} {ks : List Int} (hb : Blk w g T (ks.map fun k => .int .i64 k)) {cap : Nat} : Rw 1 intE w (.slice (some ⟨g, 0, none⟩) ks.length cap) ks :=
  Rw.of_blk1 hb (by simp) (fun j x u hx hu => by rw [List.getElem?_map, hx] at hu; cases hu; rfl)
theorem Rw.strs {g : Nat} {T : TypeId} {ks : List ByteArray} (hb : Blk w g T (ks.map fun k => .string k)) {cap : Nat} : Rw 1 strE w (.slice (some ⟨g, 0, none⟩) ks.length cap) ks :=
  Rw.of_blk1 hb (by simp) (fun j x u hx hu => by rw [List.getElem?_map, hx] at hu; cases hu; rfl)
theorem Rw.bools {g : Nat} {T : TypeId} {ks : List Bool} (hb : Blk w g T (ks.map fun k => .bool k)) {cap : Nat} : Rw 1 boolE w (.slice (some ⟨g, 0, none⟩) ks.length cap) ks :=
  Rw.of_blk1 hb (by simp) (fun j x u hx hu => by rw [List.getElem?_map, hx] at hu; cases hu; rfl)

end Go.Proofs.Ytmgkoocpnakanaa.W
