/-
  The walks of Fits. Condition: the number is an int.
-/
import Derived.Test.YtlohhlbbkliehaaGreatDoorA
import Derived.Test.YtlohhlbbkliehaaGreatDoorL
namespace Go.Proofs.YtlohhlbbkliehaaGreatDoor.W
open Go.RowKit

def fitsB (n b : Int) (sg : Bool) : Bool := decide (1 ≤ b) && (decide (b ≤ 64) && if sg then decide (-(2 ^ (b - 1).toNat) ≤ n) && decide (n < 2 ^ (b - 1).toNat) else decide (0 ≤ n) && decide (n < 2 ^ b.toNat))


theorem div_zero (n p : Int) (hp : 1 ≤ p) : n / p = 0 ↔ 0 ≤ n ∧ n < p := by
  have h1 := Int.le_ediv_iff_mul_le (a := 0) (b := n) (c := p) (by omega)
  have h2 := Int.ediv_lt_iff_lt_mul (a := n) (b := 1) (c := p) (by omega)
  omega

theorem div_neg1 (n p : Int) (hp : 1 ≤ p) : n / p = -1 ↔ -p ≤ n ∧ n < 0 := by
  have h1 := Int.le_ediv_iff_mul_le (a := -1) (b := n) (c := p) (by omega)
  have h2 := Int.ediv_lt_iff_lt_mul (a := n) (b := 0) (c := p) (by omega)
  omega

theorem pow_pos' (e : Nat) : (1 : Int) ≤ 2 ^ e := by
  have := Nat.two_pow_pos e
  have h : ((2 ^ e : Nat) : Int) = 2 ^ e := by push_cast; rfl
  omega

theorem pow_le' {e f : Nat} (h : e ≤ f) : (2 : Int) ^ e ≤ 2 ^ f := by
  have := Nat.pow_le_pow_right (n := 2) (by decide) h
  have h1 : ((2 ^ e : Nat) : Int) = 2 ^ e := by push_cast; rfl
  have h2 : ((2 ^ f : Nat) : Int) = 2 ^ f := by push_cast; rfl
  omega

theorem pow_eq63 {e : Nat} (h : e = 63) : (2 : Int) ^ e = 9223372036854775808 := by subst h; rfl
theorem pow_eq62 {e : Nat} (h : e = 62) : (2 : Int) ^ e = 4611686018427387904 := by subst h; rfl

/-- the outcome of Fits by plain comparisons -/
theorem fits_out {n b : Int} (hb : 1 ≤ b ∧ b ≤ 64) : fitsB n b false = (decide (0 ≤ n) && decide (n < 2 ^ b.toNat)) ∧ fitsB n b true = (decide (-(2 ^ (b.toNat - 1)) ≤ n) && decide (n < 2 ^ (b.toNat - 1))) := by
  have e : (b - 1).toNat = b.toNat - 1 := by omega
  simp [fitsB, hb.1, hb.2, e]

set_option maxHeartbeats 400000 in
theorem fits_any (n b : Int) (sg : Bool) (w : World) (h1 : -9223372036854775808 ≤ n) (h2 : n ≤ 9223372036854775807) :
    Calls Tryz.prog 51 #[.int .i64 n, .int .i64 b, .bool sg] w fun e w' => e = .returned (.bool (fitsB n b sg)) ∧ w = w' := by
  by_cases hb : 1 ≤ b ∧ b ≤ 64
  · have HO := Lib.hid (fits_out (n := n) hb)
    have HP := Lib.hid (pow_pos' (b.toNat - 1))
    have HQ := Lib.hid (pow_pos' b.toNat)
    have HR := Lib.hid (fun h : 63 ≤ b.toNat => pow_le' h)
    obtain ⟨hb1, hb2⟩ := hb
    cases sg
    all_goals go_enter Tryz.func51, Tryz.ntmps51
    all_goals go_wp2
    all_goals go_ret
    · rw [HO.out.1]
      refine ⟨ret_b ?_, rfl⟩
      have := div_zero n _ HQ.out
      rw [Bool.eq_iff_iff]; simp; omega
    · rw [HO.out.1]
      refine ⟨ret_b ?_, rfl⟩
      have := HR.out (by omega)
      rw [Bool.eq_iff_iff]; simp; omega
    · rw [HO.out.1]
      refine ⟨ret_b ?_, rfl⟩
      rw [Bool.eq_iff_iff]; simp; omega
    · rw [HO.out.2]
      refine ⟨ret_b ?_, rfl⟩
      have := div_zero n _ HP.out
      rw [Bool.eq_iff_iff]; simp; omega
    · rw [HO.out.2]
      refine ⟨ret_b ?_, rfl⟩
      have := div_zero n _ HP.out
      have := div_neg1 n _ HP.out
      rw [Bool.eq_iff_iff]; simp; omega
  · go_enter Tryz.func51, Tryz.ntmps51
    go_wp2
    all_goals go_ret
    all_goals (refine ⟨ret_b ?_, rfl⟩; simp [fitsB]; omega)

end Go.Proofs.YtlohhlbbkliehaaGreatDoor.W
