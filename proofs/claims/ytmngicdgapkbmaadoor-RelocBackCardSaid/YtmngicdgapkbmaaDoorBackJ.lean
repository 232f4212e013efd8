/-
  RelocBack: the cases joined.
-/
import Derived.Test.YtmngicdgapkbmaaDoorBackC
namespace Go.Proofs.YtmngicdgapkbmaaDoor.W
open Go.RowKit Go.ChangeShapes Go.WideShapes
set_option linter.unusedVariables false

theorem back_any (W : World) (s : ByteArray) (x k v : Int) (hs : s.size ≤ 140737488351232) (hx : -9223372036854775808 ≤ x ∧ x ≤ 9223372036854775807) (hk : -9223372036854775808 ≤ k ∧ k ≤ 9223372036854775807) (hv : -9223372036854775808 ≤ v ∧ v ≤ 9223372036854775807) (hT : Tabs W) :
    Calls Tryd.prog 4 #[.string s, .int .i64 x, .int .i64 k, .int .i64 v] W fun e w' => e = .returned (.bool true) ∧ Below W.heap.size W w' := by
  by_cases hl : s.size ≤ 300
  · rcases hp : wPre s x k v with _ | _
    · exact bk_pre W s x k v hx hv hT hl hp
    · by_cases hr : offI k + sizeI k ≤ s.size - x
      · rcases hc : code15 k with _ | _
        · exact bk_data W s x k v hx hv hT hl hp hr hc
        · obtain ⟨_, hx0, _, _⟩ := wPre_parts hp
          obtain ⟨n, rfl⟩ := Int.eq_ofNat_of_zero_le hx0
          exact bk_code W s n k v hx hv hT hl hp hr hc
      · exact bk_room W s x k v hx hv hT hl hp hr
  · exact bk_long W s x k v hs hT (by omega)

end Go.Proofs.YtmngicdgapkbmaaDoor.W
