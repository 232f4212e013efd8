/-
  The wire's encodings in plain words. No program.
-/
import Derived.Test.YtimbhnnidohmaaaDoorL
namespace Go.Proofs.YtimbhnnidohmaaaDoor.W
set_option linter.unusedVariables false

/-- a number's bytes: groups of seven bits, the lowest first -/
def numF : Nat → Nat → List UInt8
  | 0, n => [UInt8.ofNat n]
  | f + 1, n => if n < 128 then [UInt8.ofNat n] else UInt8.ofNat (n % 128 + 128) :: numF f (n / 128)
def numL (n : Nat) : List UInt8 := numF 9 n
def textL (s : List UInt8) : List UInt8 := numL s.length ++ s

theorem numF_low (f n : Nat) (h : n < 128) : numF f n = [UInt8.ofNat n] := by
  cases f with
  | zero => rfl
  | succ f => rw [numF, if_pos h]
theorem numF_more (f n : Nat) (h : ¬ n < 128) : numF (f + 1) n = UInt8.ofNat (n % 128 + 128) :: numF f (n / 128) := by
  rw [numF, if_neg h]
theorem numF_len : ∀ (f n : Nat), (numF f n).length ≤ f + 1
  | 0, _ => Nat.le_refl _
  | f + 1, n => by
    rw [numF]
    split
    · simp
    · have := numF_len f (n / 128)
      simp; omega
theorem numF_pos : ∀ (f n : Nat), 0 < (numF f n).length
  | 0, _ => Nat.one_pos
  | f + 1, n => by rw [numF]; split <;> simp
theorem numL_len (n : Nat) : (numL n).length ≤ 10 := numF_len 9 n
theorem textL_len (s : List UInt8) : (textL s).length ≤ s.length + 10 := by
  unfold textL; rw [List.length_append]; have := numL_len s.length; omega

theorem num_step {f m : Nat} (h : m < 128 ^ (f + 1)) (h1 : ¬ m < 128) : ∃ f', f = f' + 1 ∧ m / 128 < 128 ^ (f' + 1) := by
  cases f with
  | zero => simp at h; omega
  | succ f' => exact ⟨f', rfl, by rw [Nat.pow_succ] at h; omega⟩

end Go.Proofs.YtimbhnnidohmaaaDoor.W
