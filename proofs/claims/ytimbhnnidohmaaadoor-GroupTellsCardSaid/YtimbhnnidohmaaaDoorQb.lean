/-
  Worlds that calls with contracts ending in 'Below' leave of a world. No program.
-/
import Derived.Test.YtimbhnnidohmaaaDoorL
import Derived.Lib.QuietBelow
namespace Go.Proofs.YtimbhnnidohmaaaDoor.W
open Go.RowKit Go.Sort
set_option linter.unusedVariables false

theorem regrown_keeps (w : World) (d : Nat) (os : Array Obj) : Keeps (fun _ => False) w (grow (redrawn w d) os) :=
  Keeps.of_below (below_regrown w d os) (fun k h1 h2 => by omega)
theorem keeps_below {w w' : World} (k : Keeps (fun _ => False) w w') : Below w.heap.size w w' := k.below (Nat.le_refl _) (fun _ _ h => h)
theorem below_keeps {w w' : World} (k : Below w.heap.size w w') : Keeps (fun _ => False) w w' := Keeps.of_below k (fun k h1 h2 => by omega)
theorem below_next {a b c : World} (h : Below a.heap.size a b) (k : Below b.heap.size b c) : Below a.heap.size a c := h.trans (k.mono h.size)

end Go.Proofs.YtimbhnnidohmaaaDoor.W
