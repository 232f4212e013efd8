/-
  The reference's constant, turn, left: the walks.
-/
import Derived.Test.YtimbhnnidohmaaaDoorRef
import Derived.Test.YtimbhnnidohmaaaDoorP
namespace Go.Proofs.YtimbhnnidohmaaaDoor.W
open Go.RowKit
set_option linter.unusedVariables false

set_option maxHeartbeats 1000000 in
theorem left_any (x n : Nat) (hx : x < 18446744073709551616) (hn : n < 64) (w : World) : Calls Tryd.prog 58 #[.int .u64 x, .int .u64 n] w fun e w' => e = .returned (.int .u64 (rotl x n : Nat)) ∧ w = w' := by
  rcases Nat.eq_zero_or_pos n with h0 | h0
  · subst h0
    go_enter Tryd.func58, Tryd.ntmps58
    go_wp2
    go_ret
    have e : rotl x 0 = x := by unfold rotl; rw [Nat.pow_zero, Nat.mul_one, Nat.mod_eq_of_lt hx, Nat.sub_zero, Nat.div_eq_of_lt hx, Nat.or_zero]
    rw [e]
    exact ⟨rfl, rfl⟩
  · have hn0 : ¬ n = 0 := by omega
    go_enter Tryd.func58, Tryd.ntmps58
    go_wp2
    go_ret
    refine ⟨?_, rfl⟩
    have hb : x / 2 ^ (64 - n) < 18446744073709551616 := Nat.lt_of_le_of_lt (Nat.div_le_self _ _) hx
    have h := u64_or_nat (x * 2 ^ n % 18446744073709551616) (x / 2 ^ (64 - n)) (Nat.mod_lt _ (by decide)) hb
    have e1 : IntKind.u64.wrap ((x : Int) * 2 ^ n) = ((x * 2 ^ n % 18446744073709551616 : Nat) : Int) := by rw [IntKind.wrap_u64]; simp
    have e2 : (x : Int) / 2 ^ (64 - n) = ((x / 2 ^ (64 - n) : Nat) : Int) := by simp
    unfold rotl
    rw [← h, ← e1, ← e2]
    rfl

set_option maxHeartbeats 1000000 in
theorem turn_any (k : Nat) (hk : k < 25) (w : World) : Calls Tryd.prog 59 #[.int .i64 k] w fun e w' => e = .returned (.int .u64 (nth turnL k : Nat)) ∧ Below w.heap.size w w' := by
  go_enter Tryd.func59, Tryd.ntmps59
  go_wp2
  go_ret
  refine ⟨?_, by go_grown⟩
  have hl : k < (lanes turnL).length := hk
  show Ending.returned ((lanes turnL)[k]'hl) = _
  have := lanes_at (l := turnL) (j := k) hk
  rw [List.getElem?_eq_getElem hl] at this
  rw [Option.some.inj this]

theorem constant_any (k : Nat) (hk : k < 24) (w : World) : Calls Tryd.prog 51 #[.int .i64 k] w fun e w' => e = .returned (.int .u64 (nth constL k : Nat)) ∧ Below w.heap.size w w' := by
  go_enter Tryd.func51, Tryd.ntmps51
  go_wp2
  go_ret
  refine ⟨?_, by go_grown⟩
  have hl : k < (lanes constL).length := hk
  show Ending.returned ((lanes constL)[k]'hl) = _
  have := lanes_at (l := constL) (j := k) hk
  rw [List.getElem?_eq_getElem hl] at this
  rw [Option.some.inj this]

end Go.Proofs.YtimbhnnidohmaaaDoor.W
