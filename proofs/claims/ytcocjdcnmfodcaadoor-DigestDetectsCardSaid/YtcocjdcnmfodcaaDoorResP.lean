/-
  The checksum's plain laws: linear, injective, the residue.
-/
import Derived.Test.YtcocjdcnmfodcaaDoorCrcP
namespace Go.Proofs.YtcocjdcnmfodcaaDoor.W
set_option linter.unusedVariables false

theorem bit1_xor (x y : Nat) : bit1 (x ^^^ y) = bit1 x ^^^ bit1 y := by
  have hm : (x ^^^ y) % 2 = (x % 2 + y % 2) % 2 := by
    have h := Nat.testBit_xor x y 0
    simp only [Nat.testBit_zero] at h
    rcases Nat.mod_two_eq_zero_or_one x with a | a <;> rcases Nat.mod_two_eq_zero_or_one y with b | b <;> rcases Nat.mod_two_eq_zero_or_one (x ^^^ y) with c | c <;> simp [a, b, c] at h ⊢
  have hd : (x ^^^ y) / 2 = x / 2 ^^^ y / 2 := Nat.xor_div_two
  unfold bit1
  rw [hm, hd]
  rcases Nat.mod_two_eq_zero_or_one x with a | a <;> rcases Nat.mod_two_eq_zero_or_one y with b | b <;> simp only [a, b, Nat.zero_ne_one, if_true, if_false, Nat.reduceAdd, Nat.reduceMod]
  · rw [← Nat.xor_assoc]
  · rw [Nat.xor_assoc, Nat.xor_assoc, Nat.xor_comm 2197175160 (y / 2)]
  · rw [Nat.xor_assoc, ← Nat.xor_assoc 2197175160, Nat.xor_comm 2197175160 (y / 2), Nat.xor_assoc, Nat.xor_self, Nat.xor_zero]

theorem bitN_xor (x y : Nat) : ∀ n, bitN (x ^^^ y) n = bitN x n ^^^ bitN y n
  | 0 => rfl
  | n + 1 => by rw [bitN, bitN_xor x y n, bit1_xor]; rfl

theorem bit1_zero : bit1 0 = 0 := rfl
theorem bitN_zero : ∀ n, bitN 0 n = 0
  | 0 => rfl
  | n + 1 => by rw [bitN, bitN_zero n]; rfl

theorem bit1_ne {x : Nat} (h : x < 4294967296) (h0 : x ≠ 0) : bit1 x ≠ 0 := by
  unfold bit1
  split
  · intro e
    have e1 : x / 2 = 2197175160 := by
      have := congrArg (· ^^^ 2197175160) e
      simpa [Nat.xor_assoc] using this
    omega
  · omega

theorem bitN_ne {x : Nat} (h : x < 4294967296) (h0 : x ≠ 0) : ∀ n, bitN x n ≠ 0
  | 0 => h0
  | n + 1 => bit1_ne (bitN_low h n) (bitN_ne h h0 n)

theorem bitN_add (x m : Nat) : ∀ n, bitN x (m + n) = bitN (bitN x m) n
  | 0 => rfl
  | n + 1 => by rw [← Nat.add_assoc, bitN, bitN_add x m n]; rfl

/-- a byte above the lowest bits comes down unchanged -/
theorem bitN_shift (y : Nat) : ∀ n, bitN (y * 2 ^ n) n = y
  | 0 => by simp [bitN]
  | n + 1 => by
    have e : ∀ (x : Nat) (n : Nat), bitN x (n + 1) = bitN (bit1 x) n := fun x n => by rw [Nat.add_comm n 1, bitN_add]; rfl
    rw [e]
    have : bit1 (y * 2 ^ (n + 1)) = y * 2 ^ n := by
      have e2 : y * 2 ^ (n + 1) = y * 2 ^ n * 2 := by rw [Nat.pow_succ, Nat.mul_assoc]
      rw [e2]
      generalize y * 2 ^ n = z
      unfold bit1
      rw [if_neg (by omega)]
      omega
    rw [this, bitN_shift y n]

/-- exclusive or, byte for byte -/
def xor3 : List UInt8 → List UInt8 → List UInt8 → List UInt8
  | a :: l, b :: m, c :: r => (a ^^^ b ^^^ c) :: xor3 l m r
  | _, _, _ => []

theorem fold_xor3 : ∀ (l m r : List UInt8), l.length = m.length → m.length = r.length → ∀ x y z : Nat,
    (xor3 l m r).foldl byte1 (x ^^^ y ^^^ z) = l.foldl byte1 x ^^^ m.foldl byte1 y ^^^ r.foldl byte1 z
  | [], [], [], _, _, _, _, _ => rfl
  | a :: l, b :: m, c :: r, h1, h2, x, y, z => by
    simp only [xor3, List.foldl_cons]
    have e : byte1 (x ^^^ y ^^^ z) (a ^^^ b ^^^ c) = byte1 x a ^^^ byte1 y b ^^^ byte1 z c := by
      unfold byte1
      rw [← bitN_xor, ← bitN_xor]
      congr 1
      rw [UInt8.toNat_xor, UInt8.toNat_xor]
      ac_rfl
    rw [e]
    exact fold_xor3 l m r (by simpa using h1) (by simpa using h2) _ _ _
  | [], [], _ :: _, _, h2, _, _, _ => by simp at h2
  | [], _ :: _, _, h1, _, _, _, _ => by simp at h1
  | _ :: _, [], _, h1, _, _, _, _ => by simp at h1
  | _ :: _, _ :: _, [], _, h2, _, _, _ => by simp at h2

theorem crc_xor3 (l m r : List UInt8) (h1 : l.length = m.length) (h2 : m.length = r.length) : crcL (xor3 l m r) = crcL l ^^^ crcL m ^^^ crcL r := by
  have h := fold_xor3 l m r h1 h2 4294967295 4294967295 4294967295
  rw [Nat.xor_self, Nat.zero_xor] at h
  unfold crcL crcR
  rw [h]
  have : ∀ (F a b c : Nat), F ^^^ (a ^^^ b ^^^ c) = F ^^^ a ^^^ (F ^^^ b) ^^^ (F ^^^ c) := by
    intro F a b c
    have e : F ^^^ a ^^^ (F ^^^ b) ^^^ (F ^^^ c) = (F ^^^ F) ^^^ (F ^^^ (a ^^^ b ^^^ c)) := by ac_rfl
    rw [e, Nat.xor_self, Nat.zero_xor]
  exact this _ _ _ _

/-- the four bytes of a number below 2^32, the lowest first -/
def le4 (n : Nat) : List UInt8 := [UInt8.ofNat (n % 256), UInt8.ofNat (n / 256 % 256), UInt8.ofNat (n / 65536 % 256), UInt8.ofNat (n / 16777216)]

theorem xor_shift (t u i : Nat) (h : u < 2 ^ i) : t * 2 ^ i ^^^ u = t * 2 ^ i + u := by
  have h1 : (t * 2 ^ i ^^^ u) % 2 ^ i = u := by rw [Nat.xor_mod_two_pow, Nat.mul_mod_left, Nat.zero_xor, Nat.mod_eq_of_lt h]
  have h2 : (t * 2 ^ i ^^^ u) / 2 ^ i = t := by rw [Nat.xor_div_two_pow, Nat.mul_div_cancel _ (Nat.two_pow_pos i), Nat.div_eq_of_lt h, Nat.xor_zero]
  have := Nat.div_add_mod (t * 2 ^ i ^^^ u) (2 ^ i)
  rw [h1, h2] at this
  rw [← this, Nat.mul_comm]

theorem four_lin (f : Nat → Nat) (hf : ∀ x y, f (x ^^^ y) = f x ^^^ f y) (x a b c d : Nat) :
    f (f (f (f (x ^^^ a) ^^^ b) ^^^ c) ^^^ d) = f (f (f (f x))) ^^^ f (f (f (f a ^^^ b) ^^^ c) ^^^ d) := by
  simp only [hf]
  ac_rfl
theorem four_lin2 (f : Nat → Nat) (hf : ∀ x y, f (x ^^^ y) = f x ^^^ f y) (g : Nat → Nat) (hg : ∀ y, f (g y) = y) (a b c d : Nat) :
    f (f (f (f (g (g (g d ^^^ c) ^^^ b) ^^^ a)))) = f (f (f (f a ^^^ b) ^^^ c) ^^^ d) := by
  simp only [hf, hg]
  ac_rfl
theorem bitN_32 (x : Nat) : bitN x 32 = bitN (bitN (bitN (bitN x 8) 8) 8) 8 := by
  rw [show (32 : Nat) = 8 + 8 + 8 + 8 from rfl, bitN_add, bitN_add, bitN_add]

theorem four (x a b c d : Nat) (ha : a < 256) (hb : b < 256) (hc : c < 256) (hd : d < 256) :
    bitN (bitN (bitN (bitN (x ^^^ a) 8 ^^^ b) 8 ^^^ c) 8 ^^^ d) 8 = bitN (x ^^^ (a + 256 * b + 65536 * c + 16777216 * d)) 32 := by
  have s3 := xor_shift d c 8 hc
  have s2 := xor_shift (d * 2 ^ 8 ^^^ c) b 8 hb
  have s1 := xor_shift ((d * 2 ^ 8 ^^^ c) * 2 ^ 8 ^^^ b) a 8 ha
  have s : a + 256 * b + 65536 * c + 16777216 * d = ((d * 2 ^ 8 ^^^ c) * 2 ^ 8 ^^^ b) * 2 ^ 8 ^^^ a := by omega
  rw [s, bitN_xor _ _ 32, bitN_32 x, bitN_32 (_ ^^^ a)]
  rw [four_lin2 (bitN · 8) (fun x y => bitN_xor x y 8) (· * 2 ^ 8) (fun y => bitN_shift y 8)]
  exact four_lin (bitN · 8) (fun x y => bitN_xor x y 8) x a b c d

theorem crc_residue (l : List UInt8) : crcL (l ++ le4 (crcL l)) = 1214729159 := by
  have hn := crcL_low l
  obtain ⟨n, hN⟩ : ∃ n, crcL l = n := ⟨_, rfl⟩
  rw [hN] at hn ⊢
  have e : crcR (l ++ le4 n) = bitN (crcR l ^^^ n) 32 := by
    show (l ++ [_, _, _, _]).foldl byte1 4294967295 = _
    rw [List.foldl_append]
    show byte1 (byte1 (byte1 (byte1 (crcR l) _) _) _) _ = _
    unfold byte1
    have t1 : (UInt8.ofNat (n % 256)).toNat = n % 256 := by simp
    have t2 : (UInt8.ofNat (n / 256 % 256)).toNat = n / 256 % 256 := by simp
    have t3 : (UInt8.ofNat (n / 65536 % 256)).toNat = n / 65536 % 256 := by simp
    have t4 : (UInt8.ofNat (n / 16777216)).toNat = n / 16777216 := by simp; omega
    rw [t1, t2, t3, t4, four _ _ _ _ _ (by omega) (by omega) (by omega) (by omega)]
    congr 2
    omega
  have hx : crcR l ^^^ n = 4294967295 := by
    rw [← hN, crcL]
    rw [Nat.xor_comm 4294967295, ← Nat.xor_assoc, Nat.xor_self, Nat.zero_xor]
  rw [crcL, e, hx]
  decide +kernel

end Go.Proofs.YtcocjdcnmfodcaaDoor.W
