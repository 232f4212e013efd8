/-
  The walks of the two functions that ask whether a field exists. No condition but the strings' own bound.
-/
import Derived.Test.YtlohhlbbkliehaaGreatDoorRows
import Derived.WalkKit
import Derived.WalkLawsBesides
import Derived.WalkSpells
import Derived.Lib.Hide
namespace Go.Proofs.YtlohhlbbkliehaaGreatDoor.W
open Go.RowKit
set_option linter.unusedSimpArgs false

def fieldB (n at_ size : Int) : Bool := (size == 1 || size == 2 || size == 4 || size == 8) && (decide (0 ≤ at_) && decide (at_ ≤ n - size))

set_option maxHeartbeats 400000 in
theorem field_any (s : ByteArray) (a size : Int) (w : World) (hs : s.size ≤ maxLen) :
    Calls Tryz.prog 50 #[.string s, .int .i64 a, .int .i64 size] w fun e w' => e = .returned (.bool (fieldB s.size a size)) ∧ w = w' := by
  unfold maxLen at hs
  go_enter Tryz.func50, Tryz.ntmps50
  go_wp2
  all_goals (go_ret; refine ⟨?_, rfl⟩)
  all_goals simp_all [fieldB, wrap64]
  all_goals omega

end Go.Proofs.YtlohhlbbkliehaaGreatDoor.W
