/-
  The digest in plain words: the permutation's folds, the blocks, the output; the checksum; hexadecimal. No program.
-/
import Derived.Test.YtimbhnnidohmaaaDoorL
namespace Go.Proofs.YtimbhnnidohmaaaDoor.W

def x64 : Nat := 18446744073709551616
/-- an element, 0 behind the end -/
def nth (l : List Nat) (i : Nat) : Nat := l.getD i 0
def rotl (x n : Nat) : Nat := (x * 2 ^ n % 18446744073709551616) ||| (x / 2 ^ (64 - n))
def turnL : List Nat := [0, 1, 62, 28, 27, 36, 44, 6, 55, 20, 3, 10, 43, 25, 39, 41, 45, 15, 21, 8, 18, 2, 61, 56, 14]
def constL : List Nat := [1, 32898, 9223372036854808714, 9223372039002292224, 32907, 2147483649, 9223372039002292353, 9223372036854808585, 138, 136, 2147516425, 2147483658, 2147516555, 9223372036854775947, 9223372036854808713, 9223372036854808579, 9223372036854808578, 9223372036854775936, 32778, 9223372039002259466, 9223372039002292353, 9223372036854808704, 2147483649, 9223372039002292232]
def pfold (a : List Nat) : Nat → List Nat
  | 0 => [0, 0, 0, 0, 0]
  | k + 1 => (pfold a k).set (k % 5) (nth (pfold a k) (k % 5) ^^^ nth a k)
def bIdx (k : Nat) : Nat := k / 5 + 5 * ((2 * (k % 5) + 3 * (k / 5)) % 5)
def bVal (a p : List Nat) (k : Nat) : Nat := rotl (nth a k ^^^ (nth p ((k % 5 + 4) % 5) ^^^ rotl (nth p ((k % 5 + 1) % 5)) 1)) (nth turnL k)
def bfold (a p : List Nat) : Nat → List Nat
  | 0 => List.replicate 25 0
  | k + 1 => (bfold a p k).set (bIdx k) (bVal a p k)
def cVal (b : List Nat) (k : Nat) : Nat := nth b k ^^^ ((18446744073709551615 - nth b (k - k % 5 + (k % 5 + 1) % 5)) &&& nth b (k - k % 5 + (k % 5 + 2) % 5))
def cfold (a b : List Nat) : Nat → List Nat
  | 0 => a
  | k + 1 => (cfold a b k).set k (cVal b k)
def roundS (a : List Nat) (c : Nat) : List Nat :=
  (cfold a (bfold a (pfold a 25) 25) 25).set 0 (nth (cfold a (bfold a (pfold a 25) 25) 25) 0 ^^^ c)
def permN (a : List Nat) : Nat → List Nat
  | 0 => a
  | r + 1 => roundS (permN a r) (nth constL r)
def perm (a : List Nat) : List Nat := permN a 24
def absorbN (a : List Nat) (s : List UInt8) : Nat → List Nat
  | 0 => a
  | k + 1 => (absorbN a s k).set (k / 8) (nth (absorbN a s k) (k / 8) ^^^ ((s.getD k 0).toNat * 2 ^ (8 * (k % 8)) % 18446744073709551616))
def absorbF (a : List Nat) (s : List UInt8) : List Nat := perm (absorbN a s s.length)

/-- the state behind n whole blocks -/
def blocksN (a : List Nat) (s : List UInt8) : Nat → List Nat
  | 0 => a
  | n + 1 => absorbF (blocksN a s n) ((s.drop (136 * n)).take 136)
def zeros : List Nat := List.replicate 25 0
/-- the last block -/
def padL (r : List UInt8) : List UInt8 := (List.range 136).map fun j => if j < r.length then r.getD j 0 ||| (if j = 135 then 128 else 0) else (if j = r.length then 6 else 0) ||| (if j = 135 then 128 else 0)
def endState (s : List UInt8) : List Nat := absorbF (blocksN zeros s (s.length / 136)) (padL (s.drop (136 * (s.length / 136))))
def outB (a : List Nat) (i : Nat) : UInt8 := UInt8.ofNat (nth a (i / 8) / 2 ^ (8 * (i % 8)) % 256)
def outN (a : List Nat) (n : Nat) : List UInt8 := (List.range n).map (outB a)
/-- the digest -/
def sumL (s : List UInt8) : List UInt8 := outN (endState s) 32

/-- all lanes below 2^64 -/
def Low (l : List Nat) : Prop := ∀ j, nth l j < 18446744073709551616

theorem Low.set {l : List Nat} (h : Low l) {v : Nat} (hv : v < 18446744073709551616) (i : Nat) : Low (l.set i v) := by
  intro j
  have := h j
  unfold nth at *
  rw [List.getD_eq_getElem?_getD, List.getElem?_set]
  split
  · split <;> simp [hv]
  · simpa [List.getD_eq_getElem?_getD] using this

theorem xor_low {a b : Nat} (ha : a < 18446744073709551616) (hb : b < 18446744073709551616) : a ^^^ b < 18446744073709551616 := Nat.xor_lt_two_pow (n := 64) ha hb
theorem or_low {a b : Nat} (ha : a < 18446744073709551616) (hb : b < 18446744073709551616) : a ||| b < 18446744073709551616 := Nat.or_lt_two_pow (n := 64) ha hb
theorem and_low {a b : Nat} (hb : b < 18446744073709551616) : a &&& b < 18446744073709551616 := Nat.lt_of_le_of_lt Nat.and_le_right hb

theorem rotl_low {x : Nat} (hx : x < 18446744073709551616) (n : Nat) : rotl x n < 18446744073709551616 :=
  or_low (Nat.mod_lt _ (by decide)) (Nat.lt_of_le_of_lt (Nat.div_le_self _ _) hx)

theorem pfold_low {a : List Nat} (h : Low a) : ∀ k, Low (pfold a k) ∧ (pfold a k).length = 5
  | 0 => ⟨fun j => by
      show nth (List.replicate 5 0) j < _
      unfold nth
      rw [List.getD_eq_getElem?_getD, List.getElem?_replicate]
      split <;> decide, rfl⟩
  | k + 1 => ⟨(pfold_low h k).1.set (xor_low ((pfold_low h k).1 _) (h _)) _, by simp [pfold, (pfold_low h k).2]⟩

theorem bVal_low {a p : List Nat} (ha : Low a) (hp : Low p) (k : Nat) : bVal a p k < 18446744073709551616 :=
  rotl_low (xor_low (ha _) (xor_low (hp _) (rotl_low (hp _) _))) _

theorem bfold_low {a p : List Nat} (ha : Low a) (hp : Low p) : ∀ k, Low (bfold a p k) ∧ (bfold a p k).length = 25
  | 0 => ⟨fun j => by
      show nth (List.replicate 25 0) j < _
      unfold nth
      rw [List.getD_eq_getElem?_getD, List.getElem?_replicate]
      split <;> decide, rfl⟩
  | k + 1 => ⟨(bfold_low ha hp k).1.set (bVal_low ha hp k) _, by simp [bfold, (bfold_low ha hp k).2]⟩

theorem cVal_low {b : List Nat} (hb : Low b) (k : Nat) : cVal b k < 18446744073709551616 := xor_low (hb _) (and_low (hb _))

theorem cfold_low {a b : List Nat} (ha : Low a) (hb : Low b) (hl : a.length = 25) : ∀ k, Low (cfold a b k) ∧ (cfold a b k).length = 25
  | 0 => ⟨ha, hl⟩
  | k + 1 => ⟨(cfold_low ha hb hl k).1.set (cVal_low hb k) _, by simp [cfold, (cfold_low ha hb hl k).2]⟩

theorem const_low (r : Nat) : nth constL r < 18446744073709551616 := by
  unfold nth
  rw [List.getD_eq_getElem?_getD]
  rcases h : constL[r]? with _ | x
  · decide
  · have : ∀ y ∈ constL, y < 18446744073709551616 := by decide
    exact this x (List.mem_of_getElem? h)

theorem roundS_low {a : List Nat} (ha : Low a) (hl : a.length = 25) {c : Nat} (hc : c < 18446744073709551616) : Low (roundS a c) ∧ (roundS a c).length = 25 := by
  have hp := pfold_low ha 25
  have hb := bfold_low ha hp.1 25
  have h := cfold_low ha hb.1 hl 25
  exact ⟨h.1.set (xor_low (h.1 _) hc) _, by simp [roundS, h.2]⟩

theorem permN_low {a : List Nat} (ha : Low a) (hl : a.length = 25) : ∀ r, Low (permN a r) ∧ (permN a r).length = 25
  | 0 => ⟨ha, hl⟩
  | r + 1 => roundS_low (permN_low ha hl r).1 (permN_low ha hl r).2 (const_low r)

theorem absorbN_low {a : List Nat} (ha : Low a) (hl : a.length = 25) (s : List UInt8) : ∀ k, Low (absorbN a s k) ∧ (absorbN a s k).length = 25
  | 0 => ⟨ha, hl⟩
  | k + 1 => ⟨(absorbN_low ha hl s k).1.set (xor_low ((absorbN_low ha hl s k).1 _) (Nat.mod_lt _ (by decide))) _, by simp [absorbN, (absorbN_low ha hl s k).2]⟩

theorem absorbF_low {a : List Nat} (ha : Low a) (hl : a.length = 25) (s : List UInt8) : Low (absorbF a s) ∧ (absorbF a s).length = 25 := by
  have h := absorbN_low ha hl s s.length
  unfold absorbF perm
  exact permN_low h.1 h.2 24

theorem zeros_low : Low zeros ∧ zeros.length = 25 := by
  refine ⟨fun j => ?_, rfl⟩
  unfold nth zeros
  rw [List.getD_eq_getElem?_getD, List.getElem?_replicate]
  split <;> decide

theorem blocksN_low {a : List Nat} (ha : Low a) (hl : a.length = 25) (s : List UInt8) : ∀ n, Low (blocksN a s n) ∧ (blocksN a s n).length = 25
  | 0 => ⟨ha, hl⟩
  | n + 1 => absorbF_low (blocksN_low ha hl s n).1 (blocksN_low ha hl s n).2 _

theorem padL_length (r : List UInt8) : (padL r).length = 136 := by simp [padL]

/-- the state as values -/
def lanes (l : List Nat) : List Value := l.map fun (x : Nat) => Value.int .u64 (x : Int)

theorem lanes_at {l : List Nat} {j : Nat} (h : j < l.length) : (lanes l)[j]? = some (.int .u64 ((nth l j : Nat) : Int)) := by
  unfold nth
  simp [lanes, List.getElem?_eq_getElem h, List.getD_eq_getElem?_getD]

theorem lanes_set (l : List Nat) (j v : Nat) : (lanes l).set j (.int .u64 (v : Int)) = lanes (l.set j v) := by
  simp [lanes, List.map_set]

end Go.Proofs.YtimbhnnidohmaaaDoor.W
