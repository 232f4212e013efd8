/-
  The checksum in plain words.
-/
import Derived.Test.YtimbhnnidohmaaaDoorL
namespace Go.Proofs.YtimbhnnidohmaaaDoor.W
set_option linter.unusedVariables false

def bit1 (x : Nat) : Nat := if x % 2 = 1 then x / 2 ^^^ 2197175160 else x / 2
def bitN (x : Nat) : Nat → Nat
  | 0 => x
  | n + 1 => bit1 (bitN x n)
def byte1 (x : Nat) (b : UInt8) : Nat := bitN (x ^^^ b.toNat) 8
def crcR (l : List UInt8) : Nat := l.foldl byte1 4294967295
def crcL (l : List UInt8) : Nat := 4294967295 ^^^ crcR l

theorem bit1_low {x : Nat} (h : x < 4294967296) : bit1 x < 4294967296 := by
  unfold bit1
  split
  · exact Nat.xor_lt_two_pow (n := 32) (by omega) (by decide)
  · omega
theorem bitN_low {x : Nat} (h : x < 4294967296) : ∀ n, bitN x n < 4294967296
  | 0 => h
  | n + 1 => bit1_low (bitN_low h n)
theorem byte1_low {x : Nat} (h : x < 4294967296) (b : UInt8) : byte1 x b < 4294967296 :=
  bitN_low (Nat.xor_lt_two_pow (n := 32) h (by have := b.toNat_lt; omega)) 8
theorem fold_low : ∀ (l : List UInt8) {x : Nat}, x < 4294967296 → l.foldl byte1 x < 4294967296
  | [], _, h => h
  | b :: l, _, h => fold_low l (byte1_low h b)
theorem crcR_low (l : List UInt8) : crcR l < 4294967296 := fold_low l (by decide)
theorem crcL_low (l : List UInt8) : crcL l < 4294967296 := Nat.xor_lt_two_pow (n := 32) (by decide) (crcR_low l)
theorem crcR_snoc (l : List UInt8) (b : UInt8) : crcR (l ++ [b]) = bitN (crcR l ^^^ b.toNat) 8 := by simp [crcR, byte1]

theorem take_snoc (s : ByteArray) (k : Nat) (h : k < s.size) : s.data.toList.take (k + 1) = s.data.toList.take k ++ [s[k]] := by
  rw [List.take_succ_eq_append_getElem (by simpa using h)]; rfl

end Go.Proofs.YtimbhnnidohmaaaDoor.W
