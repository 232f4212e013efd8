/-
  api.Arc: what they are in memory (printed by tools/gen_struct.py).
-/
import Derived.Test.YtmgkoocpnakanaaRw
namespace Go.Proofs.Ytmgkoocpnakanaa.W
open Go.RowKit
set_option linter.unusedVariables false

structure Arc where
  f : Int
  t : Int
deriving DecidableEq, Inhabited
def Arc.cells (x : Arc) : List Value := [.int .i64 x.f, .int .i64 x.t]
structure Arc.Ok (x : Arc) : Prop where
  f : I64 x.f
  t : I64 x.t
def Arc.E (w : World) (cs : List Value) (x : Arc) : Prop := cs = x.cells
theorem Arc.stays : Stays Arc.E := fun _ _ _ _ _ h => h
theorem Arc.cells_len (x : Arc) : (x.cells).length = 2 := rfl

end Go.Proofs.Ytmgkoocpnakanaa.W
