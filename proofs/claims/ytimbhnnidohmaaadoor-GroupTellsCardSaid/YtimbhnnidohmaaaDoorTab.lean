/-
  The two tables: what a row's list gives of them; a world for the witness.
-/
import Derived.Test.YtimbhnnidohmaaaDoorPerm
import Derived.Test.YtimbhnnidohmaaaDoorCards
import Derived.Lib.LaidTab
import Derived.LaidSub
import Derived.LaidLaws
namespace Go.Proofs.YtimbhnnidohmaaaDoor.W
open Go.RowKit
set_option linter.unusedVariables false

abbrev laidL : List (String × DataW Unit) := [("linchpin/digest.turns", Rows.laid_linchpin_digest_turns), ("linchpin/digest.constants", Rows.laid_linchpin_digest_constants)]

theorem gC : Tryd.prog.globalNamed "linchpin/digest.constants" = some 0 := by kernel_rfl
theorem gT : Tryd.prog.globalNamed "linchpin/digest.turns" = some 1 := by kernel_rfl
theorem gCty : (Tryd.prog.globals[0]?).map (·.type) = some 111 := by kernel_rfl
theorem gTty : (Tryd.prog.globals[1]?).map (·.type) = some 114 := by kernel_rfl
theorem cellsC : Tryd.prog.cellsOf 111 = 24 := by kernel_rfl
theorem cellsT : Tryd.prog.cellsOf 114 = 25 := by kernel_rfl
theorem cellsI : Tryd.prog.cellsOf 3 = 1 := by kernel_rfl
theorem cellsU : Tryd.prog.cellsOf 83 = 1 := by kernel_rfl

theorem var_block {W : World} {n : String} {g : Nat} {cs : Array Value} (hg : Tryd.prog.globalNamed n = some g) (h : W.var? Tryd.prog n = some cs) : ∃ t f, W.heap[g]? = some (.cells cs t f) := by
  simp only [World.var?, hg, Option.bind_some] at h
  split at h
  · rename_i h'
    simp at h; subst h
    exact ⟨_, _, h'⟩
  · cases h

theorem tabs_of {W : World} (h : laidMetH Tryd.prog laidL W) : Tabs W := by
  have h' : laidMet Tryd.prog laidL W := h
  have h2 : laidMet Tryd.prog [("linchpin/digest.constants", Rows.laid_linchpin_digest_constants)] W := h'.filter (fun x => x.1 == "linchpin/digest.constants")
  have a : Lib.TabIs Tryd.prog W "linchpin/digest.turns" .i64 (turnL.map fun (x : Nat) => (x : Int)) := Lib.tabIs_of_head gT gTty Tryd.underlying114 Tryd.underlying3 cellsI cellsT h'
  have b : Lib.TabIs Tryd.prog W "linchpin/digest.constants" .u64 (constL.map fun (x : Nat) => (x : Int)) := Lib.tabIs_of_head (rest := []) gC gCty Tryd.underlying111 Tryd.underlying83 cellsU cellsC h2
  exact ⟨var_block gC b, var_block gT a⟩

/-- a world for the witness: the settled one, both tables laid -/
def putCells (vs : List Value) : Obj → Obj
  | .cells _ t frozen => .cells vs.toArray t frozen
  | o => o
noncomputable def laidWorld (os : Os) : World :=
  { World.holding Tryd.prog os ⟨#[], #[], []⟩ with heap := ((World.holding Tryd.prog os ⟨#[], #[], []⟩).heap.modify 0 (putCells constV)).modify 1 (putCells turnV) }

end Go.Proofs.YtimbhnnidohmaaaDoor.W
