/-
  The walk of the law's small examples: true.
-/
import Derived.Test.YtcocjdcnmfodcaaD
import Derived.Test.YtcocjdcnmfodcaaF
namespace Go.Proofs.Ytcocjdcnmfodcaa.W
open Go.RowKit

set_option maxHeartbeats 800000 in
theorem small_any (w : World) : Calls Try.prog 8 #[] w fun e w' => e = .returned (.bool true) ∧ Below w.heap.size w w' := by
  have c1 : getP ⟨#[1, 2, 255]⟩ 1 2 false = (65282, true) := by decide +kernel
  have c2 : getP ⟨#[1, 2, 255]⟩ 1 2 true = (-254, true) := by decide +kernel
  have c3 : getP ⟨#[1, 2, 255]⟩ 2 2 true = (0, false) := by decide +kernel
  have c4 : putS ⟨#[1, 2, 3]⟩ 1 1 (-1) = ⟨#[1, 255, 3]⟩ := by decide +kernel
  have c5 : putOk ⟨#[1, 2, 3]⟩ 1 1 (-1) = true := by decide +kernel
  have c6 : upI 5 8 = 8 := by decide +kernel
  have c7 : upI (-5) 8 = 0 := by decide +kernel
  have c8 : downI (-5) 8 = -8 := by decide +kernel
  have c9 : powB 256 = true := by decide +kernel
  have c10 : powB 0 = false := by decide +kernel
  go_enter Try.func8, Try.ntmps8
  go_wp2_with (first | (go_at_call 9; refine (get_any _ _ _ _ _ (by decide)).mono ?_; rintro e w' ⟨rfl, rfl⟩) | (go_at_call 11; refine (put_any _ _ _ _ _ (by decide) (by decide) (by decide)).mono ?_; rintro e w' ⟨rfl, hb⟩) | (go_at_call 15; refine (up_any _ _ _ (by decide) (by decide)).mono ?_; rintro e w' ⟨rfl, rfl⟩) | (go_at_call 17; refine (down_any _ _ _).mono ?_; rintro e w' ⟨rfl, rfl⟩) | (go_at_call 19; refine (power_any _ _).mono ?_; rintro e w' ⟨rfl, rfl⟩))
  go_ret
  exact ⟨rfl, by assumption⟩

end Go.Proofs.Ytcocjdcnmfodcaa.W
