/-
  A block's cells in a world: facts of all cells at once. No program. (cellsN: at the world itself; cellsNa: at the world with one block more)
-/
import Derived.Test.YtmgkoocpnakanaaL
namespace Go.Proofs.Ytmgkoocpnakanaa.W
open Go.RowKit
set_option linter.unusedVariables false

/-- a block's cells stand in a world -/
def CellsAt (b : Nat) (cs : List Value) (w : World) : Prop := b < w.heap.size ∧ ∀ j v, cs[j]? = some v → w.cell? ⟨b, j, none⟩ = some v
theorem below_al (w : World) (o : Obj) : Below w.heap.size w (w.alloc o) := (Below.refl _ _).alloc (Nat.le_refl _) _
theorem CellsAt.below {b : Nat} {cs : List Value} {w w' : World} (h : CellsAt b cs w) (hb : Below w.heap.size w w') : CellsAt b cs w' :=
  ⟨Nat.lt_of_lt_of_le h.1 hb.size, fun j v hv => (hb.cell (p := ⟨b, j, none⟩) h.1).trans (h.2 j v hv)⟩
theorem CellsAt.new (w : World) (cs : List Value) (T : TypeId) : CellsAt w.heap.size cs (w.alloc (.cells cs.toArray T)) := ⟨by simp, fun j v hv => (Blk.new w T cs).at hv⟩
theorem CellsAt.new' {w : World} {b : Nat} (cs : List Value) (T : TypeId) (h : w.heap.size = b) : CellsAt b cs (w.alloc (.cells cs.toArray T)) := h ▸ CellsAt.new w cs T
theorem CellsAt.drew {b : Nat} {cs : List Value} {w : World} (h : CellsAt b cs w) : CellsAt b cs w.drew := h
theorem CellsAt.other {b : Nat} {cs : List Value} {w : World} (h : CellsAt b cs w) {a : Addr} (hne : a.block ≠ b) (v : Value) : CellsAt b cs (w.setCell a v) :=
  ⟨by simpa using h.1, fun j u hu => by
    have := h.2 j u hu
    rw [← this]
    simp [World.cell?, World.setCell, Array.getElem?_modify, hne]⟩
theorem cells2 {b : Nat} {c0 c1 : Value} {w : World} (h : CellsAt b [c0, c1] w) : w.cell? ⟨b, 0, none⟩ = some c0 ∧ w.cell? ⟨b, 1, none⟩ = some c1 :=
  ⟨h.2 0 _ rfl, h.2 1 _ rfl⟩
theorem cells2a {b : Nat} {c0 c1 : Value} {w : World} (h : CellsAt b [c0, c1] w) : (∀ o, (w.alloc o).cell? ⟨b, 0, none⟩ = some c0) ∧ (∀ o, (w.alloc o).cell? ⟨b, 1, none⟩ = some c1) :=
  ⟨fun o => (h.below (below_al w o)).2 0 _ rfl, fun o => (h.below (below_al w o)).2 1 _ rfl⟩
theorem cells3 {b : Nat} {c0 c1 c2 : Value} {w : World} (h : CellsAt b [c0, c1, c2] w) : w.cell? ⟨b, 0, none⟩ = some c0 ∧ w.cell? ⟨b, 1, none⟩ = some c1 ∧ w.cell? ⟨b, 2, none⟩ = some c2 :=
  ⟨h.2 0 _ rfl, h.2 1 _ rfl, h.2 2 _ rfl⟩
theorem cells3a {b : Nat} {c0 c1 c2 : Value} {w : World} (h : CellsAt b [c0, c1, c2] w) : (∀ o, (w.alloc o).cell? ⟨b, 0, none⟩ = some c0) ∧ (∀ o, (w.alloc o).cell? ⟨b, 1, none⟩ = some c1) ∧ (∀ o, (w.alloc o).cell? ⟨b, 2, none⟩ = some c2) :=
  ⟨fun o => (h.below (below_al w o)).2 0 _ rfl, fun o => (h.below (below_al w o)).2 1 _ rfl, fun o => (h.below (below_al w o)).2 2 _ rfl⟩
theorem cells4 {b : Nat} {c0 c1 c2 c3 : Value} {w : World} (h : CellsAt b [c0, c1, c2, c3] w) : w.cell? ⟨b, 0, none⟩ = some c0 ∧ w.cell? ⟨b, 1, none⟩ = some c1 ∧ w.cell? ⟨b, 2, none⟩ = some c2 ∧ w.cell? ⟨b, 3, none⟩ = some c3 :=
  ⟨h.2 0 _ rfl, h.2 1 _ rfl, h.2 2 _ rfl, h.2 3 _ rfl⟩
theorem cells4a {b : Nat} {c0 c1 c2 c3 : Value} {w : World} (h : CellsAt b [c0, c1, c2, c3] w) : (∀ o, (w.alloc o).cell? ⟨b, 0, none⟩ = some c0) ∧ (∀ o, (w.alloc o).cell? ⟨b, 1, none⟩ = some c1) ∧ (∀ o, (w.alloc o).cell? ⟨b, 2, none⟩ = some c2) ∧ (∀ o, (w.alloc o).cell? ⟨b, 3, none⟩ = some c3) :=
  ⟨fun o => (h.below (below_al w o)).2 0 _ rfl, fun o => (h.below (below_al w o)).2 1 _ rfl, fun o => (h.below (below_al w o)).2 2 _ rfl, fun o => (h.below (below_al w o)).2 3 _ rfl⟩
theorem cells5 {b : Nat} {c0 c1 c2 c3 c4 : Value} {w : World} (h : CellsAt b [c0, c1, c2, c3, c4] w) : w.cell? ⟨b, 0, none⟩ = some c0 ∧ w.cell? ⟨b, 1, none⟩ = some c1 ∧ w.cell? ⟨b, 2, none⟩ = some c2 ∧ w.cell? ⟨b, 3, none⟩ = some c3 ∧ w.cell? ⟨b, 4, none⟩ = some c4 :=
  ⟨h.2 0 _ rfl, h.2 1 _ rfl, h.2 2 _ rfl, h.2 3 _ rfl, h.2 4 _ rfl⟩
theorem cells5a {b : Nat} {c0 c1 c2 c3 c4 : Value} {w : World} (h : CellsAt b [c0, c1, c2, c3, c4] w) : (∀ o, (w.alloc o).cell? ⟨b, 0, none⟩ = some c0) ∧ (∀ o, (w.alloc o).cell? ⟨b, 1, none⟩ = some c1) ∧ (∀ o, (w.alloc o).cell? ⟨b, 2, none⟩ = some c2) ∧ (∀ o, (w.alloc o).cell? ⟨b, 3, none⟩ = some c3) ∧ (∀ o, (w.alloc o).cell? ⟨b, 4, none⟩ = some c4) :=
  ⟨fun o => (h.below (below_al w o)).2 0 _ rfl, fun o => (h.below (below_al w o)).2 1 _ rfl, fun o => (h.below (below_al w o)).2 2 _ rfl, fun o => (h.below (below_al w o)).2 3 _ rfl, fun o => (h.below (below_al w o)).2 4 _ rfl⟩
theorem cells6 {b : Nat} {c0 c1 c2 c3 c4 c5 : Value} {w : World} (h : CellsAt b [c0, c1, c2, c3, c4, c5] w) : w.cell? ⟨b, 0, none⟩ = some c0 ∧ w.cell? ⟨b, 1, none⟩ = some c1 ∧ w.cell? ⟨b, 2, none⟩ = some c2 ∧ w.cell? ⟨b, 3, none⟩ = some c3 ∧ w.cell? ⟨b, 4, none⟩ = some c4 ∧ w.cell? ⟨b, 5, none⟩ = some c5 :=
  ⟨h.2 0 _ rfl, h.2 1 _ rfl, h.2 2 _ rfl, h.2 3 _ rfl, h.2 4 _ rfl, h.2 5 _ rfl⟩
theorem cells6a {b : Nat} {c0 c1 c2 c3 c4 c5 : Value} {w : World} (h : CellsAt b [c0, c1, c2, c3, c4, c5] w) : (∀ o, (w.alloc o).cell? ⟨b, 0, none⟩ = some c0) ∧ (∀ o, (w.alloc o).cell? ⟨b, 1, none⟩ = some c1) ∧ (∀ o, (w.alloc o).cell? ⟨b, 2, none⟩ = some c2) ∧ (∀ o, (w.alloc o).cell? ⟨b, 3, none⟩ = some c3) ∧ (∀ o, (w.alloc o).cell? ⟨b, 4, none⟩ = some c4) ∧ (∀ o, (w.alloc o).cell? ⟨b, 5, none⟩ = some c5) :=
  ⟨fun o => (h.below (below_al w o)).2 0 _ rfl, fun o => (h.below (below_al w o)).2 1 _ rfl, fun o => (h.below (below_al w o)).2 2 _ rfl, fun o => (h.below (below_al w o)).2 3 _ rfl, fun o => (h.below (below_al w o)).2 4 _ rfl, fun o => (h.below (below_al w o)).2 5 _ rfl⟩
theorem cells10 {b : Nat} {c0 c1 c2 c3 c4 c5 c6 c7 c8 c9 : Value} {w : World} (h : CellsAt b [c0, c1, c2, c3, c4, c5, c6, c7, c8, c9] w) : w.cell? ⟨b, 0, none⟩ = some c0 ∧ w.cell? ⟨b, 1, none⟩ = some c1 ∧ w.cell? ⟨b, 2, none⟩ = some c2 ∧ w.cell? ⟨b, 3, none⟩ = some c3 ∧ w.cell? ⟨b, 4, none⟩ = some c4 ∧ w.cell? ⟨b, 5, none⟩ = some c5 ∧ w.cell? ⟨b, 6, none⟩ = some c6 ∧ w.cell? ⟨b, 7, none⟩ = some c7 ∧ w.cell? ⟨b, 8, none⟩ = some c8 ∧ w.cell? ⟨b, 9, none⟩ = some c9 :=
  ⟨h.2 0 _ rfl, h.2 1 _ rfl, h.2 2 _ rfl, h.2 3 _ rfl, h.2 4 _ rfl, h.2 5 _ rfl, h.2 6 _ rfl, h.2 7 _ rfl, h.2 8 _ rfl, h.2 9 _ rfl⟩
theorem cells10a {b : Nat} {c0 c1 c2 c3 c4 c5 c6 c7 c8 c9 : Value} {w : World} (h : CellsAt b [c0, c1, c2, c3, c4, c5, c6, c7, c8, c9] w) : (∀ o, (w.alloc o).cell? ⟨b, 0, none⟩ = some c0) ∧ (∀ o, (w.alloc o).cell? ⟨b, 1, none⟩ = some c1) ∧ (∀ o, (w.alloc o).cell? ⟨b, 2, none⟩ = some c2) ∧ (∀ o, (w.alloc o).cell? ⟨b, 3, none⟩ = some c3) ∧ (∀ o, (w.alloc o).cell? ⟨b, 4, none⟩ = some c4) ∧ (∀ o, (w.alloc o).cell? ⟨b, 5, none⟩ = some c5) ∧ (∀ o, (w.alloc o).cell? ⟨b, 6, none⟩ = some c6) ∧ (∀ o, (w.alloc o).cell? ⟨b, 7, none⟩ = some c7) ∧ (∀ o, (w.alloc o).cell? ⟨b, 8, none⟩ = some c8) ∧ (∀ o, (w.alloc o).cell? ⟨b, 9, none⟩ = some c9) :=
  ⟨fun o => (h.below (below_al w o)).2 0 _ rfl, fun o => (h.below (below_al w o)).2 1 _ rfl, fun o => (h.below (below_al w o)).2 2 _ rfl, fun o => (h.below (below_al w o)).2 3 _ rfl, fun o => (h.below (below_al w o)).2 4 _ rfl, fun o => (h.below (below_al w o)).2 5 _ rfl, fun o => (h.below (below_al w o)).2 6 _ rfl, fun o => (h.below (below_al w o)).2 7 _ rfl, fun o => (h.below (below_al w o)).2 8 _ rfl, fun o => (h.below (below_al w o)).2 9 _ rfl⟩
theorem cells11 {b : Nat} {c0 c1 c2 c3 c4 c5 c6 c7 c8 c9 c10 : Value} {w : World} (h : CellsAt b [c0, c1, c2, c3, c4, c5, c6, c7, c8, c9, c10] w) : w.cell? ⟨b, 0, none⟩ = some c0 ∧ w.cell? ⟨b, 1, none⟩ = some c1 ∧ w.cell? ⟨b, 2, none⟩ = some c2 ∧ w.cell? ⟨b, 3, none⟩ = some c3 ∧ w.cell? ⟨b, 4, none⟩ = some c4 ∧ w.cell? ⟨b, 5, none⟩ = some c5 ∧ w.cell? ⟨b, 6, none⟩ = some c6 ∧ w.cell? ⟨b, 7, none⟩ = some c7 ∧ w.cell? ⟨b, 8, none⟩ = some c8 ∧ w.cell? ⟨b, 9, none⟩ = some c9 ∧ w.cell? ⟨b, 10, none⟩ = some c10 :=
  ⟨h.2 0 _ rfl, h.2 1 _ rfl, h.2 2 _ rfl, h.2 3 _ rfl, h.2 4 _ rfl, h.2 5 _ rfl, h.2 6 _ rfl, h.2 7 _ rfl, h.2 8 _ rfl, h.2 9 _ rfl, h.2 10 _ rfl⟩
theorem cells11a {b : Nat} {c0 c1 c2 c3 c4 c5 c6 c7 c8 c9 c10 : Value} {w : World} (h : CellsAt b [c0, c1, c2, c3, c4, c5, c6, c7, c8, c9, c10] w) : (∀ o, (w.alloc o).cell? ⟨b, 0, none⟩ = some c0) ∧ (∀ o, (w.alloc o).cell? ⟨b, 1, none⟩ = some c1) ∧ (∀ o, (w.alloc o).cell? ⟨b, 2, none⟩ = some c2) ∧ (∀ o, (w.alloc o).cell? ⟨b, 3, none⟩ = some c3) ∧ (∀ o, (w.alloc o).cell? ⟨b, 4, none⟩ = some c4) ∧ (∀ o, (w.alloc o).cell? ⟨b, 5, none⟩ = some c5) ∧ (∀ o, (w.alloc o).cell? ⟨b, 6, none⟩ = some c6) ∧ (∀ o, (w.alloc o).cell? ⟨b, 7, none⟩ = some c7) ∧ (∀ o, (w.alloc o).cell? ⟨b, 8, none⟩ = some c8) ∧ (∀ o, (w.alloc o).cell? ⟨b, 9, none⟩ = some c9) ∧ (∀ o, (w.alloc o).cell? ⟨b, 10, none⟩ = some c10) :=
  ⟨fun o => (h.below (below_al w o)).2 0 _ rfl, fun o => (h.below (below_al w o)).2 1 _ rfl, fun o => (h.below (below_al w o)).2 2 _ rfl, fun o => (h.below (below_al w o)).2 3 _ rfl, fun o => (h.below (below_al w o)).2 4 _ rfl, fun o => (h.below (below_al w o)).2 5 _ rfl, fun o => (h.below (below_al w o)).2 6 _ rfl, fun o => (h.below (below_al w o)).2 7 _ rfl, fun o => (h.below (below_al w o)).2 8 _ rfl, fun o => (h.below (below_al w o)).2 9 _ rfl, fun o => (h.below (below_al w o)).2 10 _ rfl⟩
theorem rows2 {w : World} {g o : Nat} {c0 c1 : Value} (h : ∀ i u, ([c0, c1] : List Value)[i]? = some u → w.cell? ⟨g, o + i, none⟩ = some u) : w.cell? ⟨g, o, none⟩ = some c0 ∧ w.cell? ⟨g, o + 1, none⟩ = some c1 :=
  ⟨h 0 _ rfl, h 1 _ rfl⟩
theorem rows3 {w : World} {g o : Nat} {c0 c1 c2 : Value} (h : ∀ i u, ([c0, c1, c2] : List Value)[i]? = some u → w.cell? ⟨g, o + i, none⟩ = some u) : w.cell? ⟨g, o, none⟩ = some c0 ∧ w.cell? ⟨g, o + 1, none⟩ = some c1 ∧ w.cell? ⟨g, o + 2, none⟩ = some c2 :=
  ⟨h 0 _ rfl, h 1 _ rfl, h 2 _ rfl⟩
theorem rows4 {w : World} {g o : Nat} {c0 c1 c2 c3 : Value} (h : ∀ i u, ([c0, c1, c2, c3] : List Value)[i]? = some u → w.cell? ⟨g, o + i, none⟩ = some u) : w.cell? ⟨g, o, none⟩ = some c0 ∧ w.cell? ⟨g, o + 1, none⟩ = some c1 ∧ w.cell? ⟨g, o + 2, none⟩ = some c2 ∧ w.cell? ⟨g, o + 3, none⟩ = some c3 :=
  ⟨h 0 _ rfl, h 1 _ rfl, h 2 _ rfl, h 3 _ rfl⟩
theorem rows5 {w : World} {g o : Nat} {c0 c1 c2 c3 c4 : Value} (h : ∀ i u, ([c0, c1, c2, c3, c4] : List Value)[i]? = some u → w.cell? ⟨g, o + i, none⟩ = some u) : w.cell? ⟨g, o, none⟩ = some c0 ∧ w.cell? ⟨g, o + 1, none⟩ = some c1 ∧ w.cell? ⟨g, o + 2, none⟩ = some c2 ∧ w.cell? ⟨g, o + 3, none⟩ = some c3 ∧ w.cell? ⟨g, o + 4, none⟩ = some c4 :=
  ⟨h 0 _ rfl, h 1 _ rfl, h 2 _ rfl, h 3 _ rfl, h 4 _ rfl⟩
theorem rows6 {w : World} {g o : Nat} {c0 c1 c2 c3 c4 c5 : Value} (h : ∀ i u, ([c0, c1, c2, c3, c4, c5] : List Value)[i]? = some u → w.cell? ⟨g, o + i, none⟩ = some u) : w.cell? ⟨g, o, none⟩ = some c0 ∧ w.cell? ⟨g, o + 1, none⟩ = some c1 ∧ w.cell? ⟨g, o + 2, none⟩ = some c2 ∧ w.cell? ⟨g, o + 3, none⟩ = some c3 ∧ w.cell? ⟨g, o + 4, none⟩ = some c4 ∧ w.cell? ⟨g, o + 5, none⟩ = some c5 :=
  ⟨h 0 _ rfl, h 1 _ rfl, h 2 _ rfl, h 3 _ rfl, h 4 _ rfl, h 5 _ rfl⟩
theorem rows10 {w : World} {g o : Nat} {c0 c1 c2 c3 c4 c5 c6 c7 c8 c9 : Value} (h : ∀ i u, ([c0, c1, c2, c3, c4, c5, c6, c7, c8, c9] : List Value)[i]? = some u → w.cell? ⟨g, o + i, none⟩ = some u) : w.cell? ⟨g, o, none⟩ = some c0 ∧ w.cell? ⟨g, o + 1, none⟩ = some c1 ∧ w.cell? ⟨g, o + 2, none⟩ = some c2 ∧ w.cell? ⟨g, o + 3, none⟩ = some c3 ∧ w.cell? ⟨g, o + 4, none⟩ = some c4 ∧ w.cell? ⟨g, o + 5, none⟩ = some c5 ∧ w.cell? ⟨g, o + 6, none⟩ = some c6 ∧ w.cell? ⟨g, o + 7, none⟩ = some c7 ∧ w.cell? ⟨g, o + 8, none⟩ = some c8 ∧ w.cell? ⟨g, o + 9, none⟩ = some c9 :=
  ⟨h 0 _ rfl, h 1 _ rfl, h 2 _ rfl, h 3 _ rfl, h 4 _ rfl, h 5 _ rfl, h 6 _ rfl, h 7 _ rfl, h 8 _ rfl, h 9 _ rfl⟩
theorem rows4a {w : World} {g o : Nat} {c0 c1 c2 c3 : Value} (hg : g < w.heap.size) (h : ∀ i u, ([c0, c1, c2, c3] : List Value)[i]? = some u → w.cell? ⟨g, o + i, none⟩ = some u) : (∀ ob, (w.alloc ob).cell? ⟨g, o, none⟩ = some c0) ∧ (∀ ob, (w.alloc ob).cell? ⟨g, o + 1, none⟩ = some c1) ∧ (∀ ob, (w.alloc ob).cell? ⟨g, o + 2, none⟩ = some c2) ∧ (∀ ob, (w.alloc ob).cell? ⟨g, o + 3, none⟩ = some c3) :=
  ⟨fun ob => ((below_al w ob).cell (p := ⟨g, _, none⟩) hg).trans (h 0 _ rfl), fun ob => ((below_al w ob).cell (p := ⟨g, _, none⟩) hg).trans (h 1 _ rfl), fun ob => ((below_al w ob).cell (p := ⟨g, _, none⟩) hg).trans (h 2 _ rfl), fun ob => ((below_al w ob).cell (p := ⟨g, _, none⟩) hg).trans (h 3 _ rfl)⟩
theorem rows5a {w : World} {g o : Nat} {c0 c1 c2 c3 c4 : Value} (hg : g < w.heap.size) (h : ∀ i u, ([c0, c1, c2, c3, c4] : List Value)[i]? = some u → w.cell? ⟨g, o + i, none⟩ = some u) : (∀ ob, (w.alloc ob).cell? ⟨g, o, none⟩ = some c0) ∧ (∀ ob, (w.alloc ob).cell? ⟨g, o + 1, none⟩ = some c1) ∧ (∀ ob, (w.alloc ob).cell? ⟨g, o + 2, none⟩ = some c2) ∧ (∀ ob, (w.alloc ob).cell? ⟨g, o + 3, none⟩ = some c3) ∧ (∀ ob, (w.alloc ob).cell? ⟨g, o + 4, none⟩ = some c4) :=
  ⟨fun ob => ((below_al w ob).cell (p := ⟨g, _, none⟩) hg).trans (h 0 _ rfl), fun ob => ((below_al w ob).cell (p := ⟨g, _, none⟩) hg).trans (h 1 _ rfl), fun ob => ((below_al w ob).cell (p := ⟨g, _, none⟩) hg).trans (h 2 _ rfl), fun ob => ((below_al w ob).cell (p := ⟨g, _, none⟩) hg).trans (h 3 _ rfl), fun ob => ((below_al w ob).cell (p := ⟨g, _, none⟩) hg).trans (h 4 _ rfl)⟩

end Go.Proofs.Ytmgkoocpnakanaa.W