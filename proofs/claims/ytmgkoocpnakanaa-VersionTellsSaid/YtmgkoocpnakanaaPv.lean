/-
  Function values that tell something of elements; what the generic functions over rows of them are asked.
-/
import Derived.Test.YtmgkoocpnakanaaArc
import Derived.Test.YtmgkoocpnakanaaShelf
import Derived.Test.YtmgkoocpnakanaaCat
import Derived.Shelf.Abstract
namespace Go.Proofs.Ytmgkoocpnakanaa.W
open Go.RowKit
set_option linter.unusedVariables false

/-- an element as an argument: a struct, a cell -/
def aggA (cs : List Value) : Value := .agg cs.toArray
def oneA (cs : List Value) : Value := cs.headD undef

/-- a function value that gives f x of each element x -/
structure FnV {α : Type} (A : List Value → Value) (E : World → List Value → α → Prop) (f : α → Value) (xs : List α) (w : World) (g : Nat) (lb : Array Value) : Prop where
  ent : Enters Try.prog g
  at_ : ∀ x ∈ xs, ∀ w', Below w.heap.size w w' → ∀ cs, E w' cs x → Calls Try.prog g (#[A cs] ++ lb) w' fun e w2 => e = .returned (f x) ∧ Below w'.heap.size w' w2
theorem FnV.below {α : Type} {A : List Value → Value} {E : World → List Value → α → Prop} {f : α → Value} {xs : List α} {w w' : World} {g : Nat} {lb : Array Value} (h : FnV A E f xs w g lb) (hb : Below w.heap.size w w') : FnV A E f xs w' g lb :=
  ⟨h.ent, fun x hx w2 hb2 cs hE => h.at_ x hx w2 (hb.trans (hb2.mono hb.size)) cs hE⟩

/-- .. of two neighbours -/
structure FnV2 {α : Type} (A : List Value → Value) (E : World → List Value → α → Prop) (p : α → α → Bool) (xs : List α) (w : World) (g : Nat) (lb : Array Value) : Prop where
  ent : Enters Try.prog g
  at_ : ∀ x ∈ xs, ∀ y ∈ xs, ∀ w', Below w.heap.size w w' → ∀ cs ds, E w' cs x → E w' ds y → Calls Try.prog g (#[A cs, A ds] ++ lb) w' fun e w2 => e = .returned (.bool (p x y)) ∧ Below w'.heap.size w' w2
theorem FnV2.below {α : Type} {A : List Value → Value} {E : World → List Value → α → Prop} {p : α → α → Bool} {xs : List α} {w w' : World} {g : Nat} {lb : Array Value} (h : FnV2 A E p xs w g lb) (hb : Below w.heap.size w w') : FnV2 A E p xs w' g lb :=
  ⟨h.ent, fun x hx y hy w2 hb2 cs ds hE hD => h.at_ x hx y hy w2 (hb.trans (hb2.mono hb.size)) cs ds hE hD⟩

theorem below_alloc (w : World) (o : Obj) : Below w.heap.size w (w.alloc o) := Below.alloc (Below.refl _ _) (Nat.le_refl _) o
theorem below_first {w w2 : World} {o : Obj} (h : Below (w.alloc o).heap.size (w.alloc o) w2) : Below w.heap.size w w2 := (below_alloc w o).trans (h.mono (below_alloc w o).size)
/-- the first place, or -1 -/
def idxP {α : Type} (p : α → Bool) (xs : List α) : Int := if xs.any p then (xs.findIdx p : Int) else -1
theorem idxP_hit {α : Type} {p : α → Bool} {xs : List α} {k : Nat} (h : k < xs.length) (he : p xs[k] = true) (hall : ∀ j (h : j < xs.length), j < k → p xs[j] = false) : idxP p xs = (k : Int) := by
  have e : xs.findIdx p = k := by
    rw [List.findIdx_eq h]
    exact ⟨he, fun j hj => hall j (by omega) hj⟩
  have : xs.any p = true := List.any_eq_true.2 ⟨xs[k], List.getElem_mem h, he⟩
  unfold idxP
  rw [if_pos this, e]
theorem idxP_miss {α : Type} {p : α → Bool} {xs : List α} (hall : ∀ j (h : j < xs.length), p xs[j] = false) : idxP p xs = -1 := by
  unfold idxP
  rw [if_neg]
  intro h
  obtain ⟨x, hx, hp⟩ := List.any_eq_true.1 h
  obtain ⟨j, hj, rfl⟩ := List.getElem_of_mem hx
  rw [hall j hj] at hp; cases hp
theorem idxP_any {α : Type} (p : α → Bool) (xs : List α) : decide (0 ≤ idxP p xs) = xs.any p := by
  unfold idxP
  cases xs.any p <;> simp
theorem any_all {α : Type} (p : α → Bool) (xs : List α) : (!(xs.any fun x => !p x)) = xs.all p := by
  rw [Bool.eq_iff_iff]
  simp

theorem len1 {l : List Value} (h : l.length = 1) : ∃ a, l = [a] := match l, h with | [a], _ => ⟨a, rfl⟩
theorem len2 {l : List Value} (h : l.length = 2) : ∃ a b, l = [a, b] := match l, h with | [a, b], _ => ⟨a, b, rfl⟩

end Go.Proofs.Ytmgkoocpnakanaa.W
