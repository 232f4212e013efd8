/-
  The checksum as one division: a difference within 32 consecutive bits is seen.
-/
import Derived.Test.YtcocjdcnmfodcaaDoorResP
namespace Go.Proofs.YtcocjdcnmfodcaaDoor.W
set_option linter.unusedVariables false

/-- the number of a string, the first byte the lowest -/
def leX : List UInt8 → Nat
  | [] => 0
  | b :: l => leX l * 2 ^ 8 ^^^ b.toNat

theorem leX_cons (b : UInt8) (l : List UInt8) : leX (b :: l) = leX l * 2 ^ 8 + b.toNat := xor_shift _ _ 8 b.toNat_lt

theorem leX_inj : ∀ (l m : List UInt8), l.length = m.length → leX l = leX m → l = m
  | [], [], _, _ => rfl
  | a :: l, b :: m, h, e => by
    rw [leX_cons, leX_cons] at e
    have ha := a.toNat_lt
    have hb := b.toNat_lt
    have e1 : leX l = leX m := by omega
    have e2 : a.toNat = b.toNat := by omega
    rw [leX_inj l m (by simpa using h) e1, UInt8.toNat_inj.1 e2]
  | [], _ :: _, h, _ => by simp at h
  | _ :: _, [], h, _ => by simp at h

theorem fold_leX : ∀ (l : List UInt8) (x : Nat), l.foldl byte1 x = bitN (x ^^^ leX l) (8 * l.length)
  | [], x => by simp [leX, bitN]
  | b :: l, x => by
    rw [List.foldl_cons, fold_leX l, List.length_cons, Nat.mul_succ, Nat.add_comm (8 * l.length) 8, bitN_add, leX, byte1]
    congr 1
    rw [show x ^^^ (leX l * 2 ^ 8 ^^^ b.toNat) = (x ^^^ b.toNat) ^^^ leX l * 2 ^ 8 by ac_rfl, bitN_xor _ (leX l * 2 ^ 8), bitN_shift]

theorem mul_xor (a b n : Nat) : (a ^^^ b) * 2 ^ n = a * 2 ^ n ^^^ b * 2 ^ n := by
  rw [← Nat.shiftLeft_eq, ← Nat.shiftLeft_eq, ← Nat.shiftLeft_eq, Nat.shiftLeft_xor_distrib]

theorem leX_set : ∀ (l : List UInt8) (i r : Nat), r < 8 → i < l.length → leX (l.set i (l.getD i 0 ^^^ UInt8.ofNat (2 ^ r))) = leX l ^^^ 2 ^ (8 * i + r)
  | b :: l, 0, r, hr, _ => by
    have h2 : 2 ^ r < 256 := Nat.pow_lt_pow_right (by decide) hr (n := 8)
    have e : (UInt8.ofNat (2 ^ r)).toNat = 2 ^ r := by simp; omega
    simp only [List.set_cons_zero, List.getD_cons_zero, leX, UInt8.toNat_xor, e, Nat.mul_zero, Nat.zero_add]
    rw [Nat.xor_assoc]
  | b :: l, i + 1, r, hr, h => by
    have ih := leX_set l i r hr (by simpa using h)
    simp only [List.set_cons_succ, List.getD_cons_succ, leX, ih]
    rw [mul_xor, ← Nat.pow_add, show 8 * i + r + 8 = 8 * (i + 1) + r by omega]
    ac_rfl

/-- the first k of 32 bits from 'bit' on, flipped where p says so -/
def flipN (p : Nat → Bool) (l : List UInt8) (bit : Nat) : Nat → List UInt8
  | 0 => l
  | k + 1 => if p k = true ∧ bit + k < 8 * l.length then (flipN p l bit k).set ((bit + k) / 8) ((flipN p l bit k).getD ((bit + k) / 8) 0 ^^^ UInt8.ofNat (2 ^ ((bit + k) % 8))) else flipN p l bit k

theorem flipN_len (p : Nat → Bool) (l : List UInt8) (bit : Nat) : ∀ k, (flipN p l bit k).length = l.length
  | 0 => rfl
  | k + 1 => by
    rw [flipN]
    split
    · rw [List.length_set, flipN_len p l bit k]
    · exact flipN_len p l bit k

theorem flipN_le (p : Nat → Bool) (l : List UInt8) (bit : Nat) : ∀ k, ∃ P, P < 2 ^ k ∧ leX (flipN p l bit k) = leX l ^^^ P * 2 ^ bit
  | 0 => ⟨0, by decide, by simp [flipN]⟩
  | k + 1 => by
    obtain ⟨P, hP, e⟩ := flipN_le p l bit k
    rw [flipN]
    split
    · rename_i h
      refine ⟨P ^^^ 2 ^ k, ?_, ?_⟩
      · exact Nat.xor_lt_two_pow (Nat.lt_of_lt_of_le hP (Nat.pow_le_pow_right (by decide) (by omega))) (Nat.pow_lt_pow_right (by decide) (by omega))
      · rw [leX_set _ _ _ (by omega) (by rw [flipN_len]; omega), e, mul_xor, ← Nat.pow_add, Nat.xor_assoc]
        congr 3
        omega
    · exact ⟨P, Nat.lt_of_lt_of_le hP (Nat.pow_le_pow_right (by decide) (by omega)), e⟩

theorem detects (p : Nat → Bool) (l : List UInt8) (bit : Nat) (hb : bit < 8 * l.length) : flipN p l bit 32 = l ↔ crcL (flipN p l bit 32) = crcL l := by
  refine ⟨fun h => by rw [h], fun h => ?_⟩
  have hl := flipN_len p l bit 32
  obtain ⟨P, hP, e⟩ := flipN_le p l bit 32
  have h2 : crcR (flipN p l bit 32) = crcR l := by
    have := congrArg (4294967295 ^^^ ·) h
    simp only [crcL, ← Nat.xor_assoc, Nat.xor_self, Nat.zero_xor] at this
    exact this
  unfold crcR at h2
  rw [fold_leX, fold_leX, hl, e, ← Nat.xor_assoc, bitN_xor _ (P * 2 ^ bit)] at h2
  have h3 : bitN (P * 2 ^ bit) (8 * l.length) = 0 := by
    have := congrArg (bitN (4294967295 ^^^ leX l) (8 * l.length) ^^^ ·) h2
    simpa only [← Nat.xor_assoc, Nat.xor_self, Nat.zero_xor] using this
  rw [show 8 * l.length = bit + (8 * l.length - bit) by omega, bitN_add, bitN_shift] at h3
  have h4 : P = 0 := by
    rcases Nat.eq_zero_or_pos P with h | h
    · exact h
    · exact absurd h3 (bitN_ne hP (by omega) _)
  rw [h4, Nat.zero_mul, Nat.xor_zero] at e
  exact leX_inj _ _ hl e

end Go.Proofs.YtcocjdcnmfodcaaDoor.W
