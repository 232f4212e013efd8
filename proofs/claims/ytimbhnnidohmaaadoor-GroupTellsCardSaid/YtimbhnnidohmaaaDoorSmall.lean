/-
  The walk of the law's own examples: they hold.
-/
import Derived.Test.YtimbhnnidohmaaaDoorSum
namespace Go.Proofs.YtimbhnnidohmaaaDoor.W
open Go.RowKit
set_option linter.unusedVariables false

theorem Tabs.below {w w' : World} (h : Tabs w) (b : Below w.heap.size w w') : Tabs w' :=
  h.keeps (Keeps.of_below (S := fun k => w.heap.size ≤ k) b (fun k _ h => h)) (by have := h.lt; omega) (by have := h.lt; omega)

theorem sumL_len (l : List UInt8) : (sumL l).length = 32 := by simp [sumL, outN]


end Go.Proofs.YtimbhnnidohmaaaDoor.W
