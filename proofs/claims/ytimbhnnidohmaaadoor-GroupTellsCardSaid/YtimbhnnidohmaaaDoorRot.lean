/-
  The walk of math/bits.RotateLeft64, for a number of bits below 64.
-/
import Derived.Test.YtimbhnnidohmaaaDoorP
namespace Go.Proofs.YtimbhnnidohmaaaDoor.W
open Go.RowKit
set_option linter.unusedVariables false

theorem rot_val (x k : Nat) (hx : x < 18446744073709551616) : bits BinOp.or IntKind.u64 (IntKind.u64.wrap ((x : Int) * 2 ^ k)) ((x : Int) / 2 ^ (64 - k)) = ((rotl x k : Nat) : Int) := by
  have e1 : IntKind.u64.wrap ((x : Int) * 2 ^ k) = ((x * 2 ^ k % 18446744073709551616 : Nat) : Int) := by
    rw [IntKind.wrap_u64, Int.natCast_emod, Int.natCast_mul, Int.natCast_pow]; rfl
  have e2 : (x : Int) / 2 ^ (64 - k) = ((x / 2 ^ (64 - k) : Nat) : Int) := by
    rw [Int.natCast_ediv, Int.natCast_pow]; rfl
  rw [e1, e2, u64_or_nat _ _ (Nat.mod_lt _ (by decide)) (Nat.lt_of_le_of_lt (Nat.div_le_self _ _) hx)]
  rfl

theorem ret_u {x y : Int} (h : x = y) : Ending.returned (.int .u64 x) = .returned (.int .u64 y) := by rw [h]

set_option maxHeartbeats 400000 in
theorem rot_any (x k : Nat) (w : World) (hx : x < 18446744073709551616) (hk : k < 64) :
    Calls Tryd.prog 56 #[.int .u64 x, .int .i64 k] w fun e w' => e = .returned (.int .u64 (rotl x k : Nat)) ∧ w = w' := by
  have hb : bits BinOp.and IntKind.u64 (k : Int) 63 = (k : Int) := by
    rw [show (63 : Int) = ((63 : Nat) : Int) from rfl, u64_and_nat k 63 (by omega) (by decide), nat_mask6, Nat.mod_eq_of_lt hk]
  go_enter Tryd.func56, Tryd.ntmps56
  go_wp2
  go_ret
  exact ⟨ret_u (rot_val x k hx), rfl⟩

end Go.Proofs.YtimbhnnidohmaaaDoor.W
