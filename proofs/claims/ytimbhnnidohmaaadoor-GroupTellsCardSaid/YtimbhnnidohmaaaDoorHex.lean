/-
  The walk of the program's Hex, for strings of at most 10^9 bytes.
-/
import Derived.Test.YtimbhnnidohmaaaDoorHexP
import Derived.Test.YtimbhnnidohmaaaDoorCrcP
import Derived.Test.YtimbhnnidohmaaaDoorBld
import Derived.Test.YtimbhnnidohmaaaDoorShelf
namespace Go.Proofs.YtimbhnnidohmaaaDoor.W
open Go.RowKit
set_option linter.unusedVariables false

theorem bc_snoc (l : List UInt8) (b : UInt8) : Lib.byteCells l ++ [.int .u8 (b.toNat : Int)] = Lib.byteCells (l ++ [b]) := by simp [Lib.byteCells]
theorem bc_len (l : List UInt8) : (Lib.byteCells l).length = l.length := by simp [Lib.byteCells]

theorem hex_put {B b : Nat} (l : List UInt8) (n : Nat) (h : n < 16) {W : World} (hI : Lib.IsBuilder 89 5 B b (Lib.byteCells l ++ [.int .u8 ((digitS[n]'h).toNat : Int)]) W) :
    Lib.IsBuilder 89 5 B b (Lib.byteCells (l ++ [dig n])) W := by
  rw [dig_at n h, bc_snoc] at hI
  exact hI


end Go.Proofs.YtimbhnnidohmaaaDoor.W
