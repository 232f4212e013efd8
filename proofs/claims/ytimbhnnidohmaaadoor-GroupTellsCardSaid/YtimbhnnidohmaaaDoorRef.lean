/-
  The reference's Crc, digit, Hex: the walks.
-/
import Derived.Test.YtimbhnnidohmaaaDoorHexP
import Derived.Test.YtimbhnnidohmaaaDoorCrcP
import Derived.Test.YtimbhnnidohmaaaDoorHex
import Derived.Test.YtimbhnnidohmaaaDoorOwn
import Derived.Deep.QuietTactic
import Derived.BigQuiet
import Derived.Test.YtimbhnnidohmaaaDoorOrd
namespace Go.Proofs.YtimbhnnidohmaaaDoor.W
open Go.RowKit
set_option linter.unusedVariables false



end Go.Proofs.YtimbhnnidohmaaaDoor.W
