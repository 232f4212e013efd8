/-
  The walk of the reference's Op.
-/
import Derived.Test.YtmngicdgapkbmaaDoorRows15
import Derived.Test.YtmngicdgapkbmaaDoorEasy15
namespace Go.Proofs.YtmngicdgapkbmaaDoor.W
open Go.RowKit
set_option linter.unusedVariables false

def ropB (k op : Int) : Bool := isK k && decide (op ∈ kOps k.toNat)

set_option maxHeartbeats 1000000 in
theorem rop_any (k op : Int) (w : World) : Calls Tryd.prog 24 #[.int .i64 k, .int .i64 op] w fun e w' => e = .returned (.bool (ropB k op)) ∧ w = w' := by
  have hk : k = 0 ∨ k = 1 ∨ k = 2 ∨ k = 3 ∨ k = 4 ∨ k = 5 ∨ k = 6 ∨ k = 7 ∨ k = 8 ∨ k = 9 ∨ k = 10 ∨ k = 11 ∨ k = 12 ∨ (k < 0 ∨ 12 < k) := by omega
  rcases hk with rfl | rfl | rfl | rfl | rfl | rfl | rfl | rfl | rfl | rfl | rfl | rfl | rfl | hk
  case inr.inr.inr.inr.inr.inr.inr.inr.inr.inr.inr.inr.inr =>
    have e : Hd (ropB k op = false) := ⟨by unfold ropB; rw [show isK k = false by simp [isK]; omega]; rfl⟩
    have z5 : (k == 5) = false := by simp; omega
    have z6 : (k == 6) = false := by simp; omega
    have z7 : (k == 7) = false := by simp; omega
    have z8 : (k == 8) = false := by simp; omega
    have z9 : (k == 9) = false := by simp; omega
    have z10 : (k == 10) = false := by simp; omega
    clear hk
    go_enter Tryd.func24, Tryd.ntmps24
    go_wp2
    go_ret
    exact ⟨ret_b e.out.symm, rfl⟩
  all_goals (
    rcases (by omega : op = 14 ∨ op = 19 ∨ op = 20 ∨ op = 21 ∨ op = 22 ∨ op = 24 ∨ op = 25 ∨ op = 3 ∨ op = 4 ∨ op = 13 ∨ (op ≠ 14 ∧ op ≠ 19 ∧ op ≠ 20 ∧ op ≠ 21 ∧ op ≠ 22 ∧ op ≠ 24 ∧ op ≠ 25 ∧ op ≠ 3 ∧ op ≠ 4 ∧ op ≠ 13)) with rfl | rfl | rfl | rfl | rfl | rfl | rfl | rfl | rfl | rfl | ⟨h1, h2, h3, h4, h5, h6, h7, h8, h9, h10⟩
    all_goals first
      | (go_enter Tryd.func24, Tryd.ntmps24
         go_wp2
         go_ret
         exact ⟨ret_b (by decide), rfl⟩)
      | (have y1 : (op == 14) = false := by simp [h1]
         have y2 : (op == 19) = false := by simp [h2]
         have y3 : (op == 20) = false := by simp [h3]
         have y4 : (op == 21) = false := by simp [h4]
         have y5 : (op == 22) = false := by simp [h5]
         have y6 : (op == 24) = false := by simp [h6]
         have y7 : (op == 25) = false := by simp [h7]
         have y8 : (op == 3) = false := by simp [h8]
         have y9 : (op == 4) = false := by simp [h9]
         have y10 : (op == 13) = false := by simp [h10]
         have hz : ∀ n : Nat, n < 13 → Hd (ropB n op = false) := fun n hn => ⟨by
           unfold ropB
           rw [Bool.and_eq_false_iff]; right
           have : n = 0 ∨ n = 1 ∨ n = 2 ∨ n = 3 ∨ n = 4 ∨ n = 5 ∨ n = 6 ∨ n = 7 ∨ n = 8 ∨ n = 9 ∨ n = 10 ∨ n = 11 ∨ n = 12 := by omega
           rcases this with rfl | rfl | rfl | rfl | rfl | rfl | rfl | rfl | rfl | rfl | rfl | rfl | rfl <;> simp [kOps, rowT, h1, h2, h3, h4, h5, h6, h7, h8, h9, h10]⟩
         clear h1 h2 h3 h4 h5 h6 h7 h8 h9 h10
         go_enter Tryd.func24, Tryd.ntmps24
         go_wp2
         go_ret
         refine ⟨ret_b ?_, rfl⟩
         first | exact (hz 0 (by decide)).out.symm | exact (hz 1 (by decide)).out.symm | exact (hz 2 (by decide)).out.symm | exact (hz 3 (by decide)).out.symm | exact (hz 4 (by decide)).out.symm | exact (hz 5 (by decide)).out.symm | exact (hz 6 (by decide)).out.symm | exact (hz 7 (by decide)).out.symm | exact (hz 8 (by decide)).out.symm | exact (hz 9 (by decide)).out.symm | exact (hz 10 (by decide)).out.symm | exact (hz 11 (by decide)).out.symm | exact (hz 12 (by decide)).out.symm))

end Go.Proofs.YtmngicdgapkbmaaDoor.W
