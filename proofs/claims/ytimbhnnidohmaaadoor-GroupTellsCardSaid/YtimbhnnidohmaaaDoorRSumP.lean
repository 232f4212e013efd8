/-
  The reference's digest in plain words: padding, blocks, lanes; and that it is the digest. No program.
-/
import Derived.Test.YtimbhnnidohmaaaDoorRefS
namespace Go.Proofs.YtimbhnnidohmaaaDoor.W
set_option linter.unusedVariables false

def pz (l : List UInt8) (k : Nat) : List UInt8 := l ++ [6] ++ List.replicate k 0
def pzn (l : List UInt8) : Nat := 135 - l.length % 136
def padB (l : List UInt8) : List UInt8 := (pz l (pzn l)).set (l.length + pzn l) ((pz l (pzn l)).getD (l.length + pzn l) 0 + 128)

theorem pz_len (l : List UInt8) (k : Nat) : (pz l k).length = l.length + 1 + k := by simp [pz]; omega
theorem pz_snoc (l : List UInt8) (k : Nat) : pz l k ++ [0] = pz l (k + 1) := by simp [pz, List.replicate_succ']
theorem padB_len (l : List UInt8) : (padB l).length = 136 * (l.length / 136 + 1) := by
  simp only [padB, List.length_set, pz_len, pzn]
  omega

theorem padB_at {l : List UInt8} {j : Nat} (h : j < l.length) : (padB l).getD j 0 = l.getD j 0 := by
  have hn : ¬ l.length + pzn l = j := by omega
  simp only [padB, List.getD_eq_getElem?_getD, List.getElem?_set, if_neg hn, pz]
  rw [List.append_assoc, List.getElem?_append_left h]

theorem pz_six (l : List UInt8) (k : Nat) : (pz l k).getD l.length 0 = 6 := by
  simp [pz, List.getD_eq_getElem?_getD]
theorem pz_zero (l : List UInt8) (k j : Nat) (h : l.length < j) : (pz l k).getD j 0 = 0 := by
  simp only [pz, List.getD_eq_getElem?_getD]
  rw [List.append_assoc, List.getElem?_append_right (by omega), List.getElem?_append_right (by simp; omega), List.getElem?_replicate]
  split <;> rfl

theorem padB_tail (l : List UInt8) {j : Nat} (h : l.length ≤ j) (h2 : j ≤ l.length + pzn l) : (padB l).getD j 0 = (if j = l.length then 6 else 0) ||| (if j = l.length + pzn l then 128 else 0) := by
  by_cases he : l.length + pzn l = j
  · have hl : l.length + pzn l < (pz l (pzn l)).length := by rw [pz_len]; omega
    have : (padB l).getD j 0 = (pz l (pzn l)).getD j 0 + 128 := by
      subst he
      simp only [padB]
      rw [List.getD_eq_getElem?_getD, List.getElem?_set, if_pos rfl, if_pos hl]; rfl
    rw [this, if_pos he.symm]
    by_cases h6 : j = l.length
    · rw [h6, pz_six, if_pos rfl]; rfl
    · rw [pz_zero _ _ _ (by omega), if_neg h6]; rfl
  · have : (padB l).getD j 0 = (pz l (pzn l)).getD j 0 := by
      simp only [padB]
      rw [List.getD_eq_getElem?_getD, List.getElem?_set, if_neg he, ← List.getD_eq_getElem?_getD]
    have hne : ¬ j = l.length + pzn l := fun e => he e.symm
    rw [this, if_neg hne]
    by_cases h6 : j = l.length
    · rw [h6, pz_six, if_pos rfl]; rfl
    · rw [pz_zero _ _ _ (by omega), if_neg h6]; rfl

def blk (b : List UInt8) (n : Nat) : List UInt8 := (b.drop (136 * n)).take 136

theorem blk_at (b : List UInt8) (n j : Nat) (hj : j < 136) : (blk b n).getD j 0 = b.getD (136 * n + j) 0 := by
  unfold blk
  rw [List.getD_eq_getElem?_getD, List.getElem?_take, if_pos hj, List.getElem?_drop, List.getD_eq_getElem?_getD]

theorem getD_ext {a b : List UInt8} (hl : a.length = b.length) (h : ∀ j, j < a.length → a.getD j 0 = b.getD j 0) : a = b := by
  apply List.ext_getElem hl
  intro j h1 h2
  have := h j h1
  simpa [List.getD_eq_getElem?_getD, List.getElem?_eq_getElem h1, List.getElem?_eq_getElem h2] using this

theorem blk_len {b : List UInt8} {n : Nat} (h : 136 * (n + 1) ≤ b.length) : (blk b n).length = 136 := by
  simp [blk]; omega

theorem blk_low (l : List UInt8) (n : Nat) (h : n < l.length / 136) : blk (padB l) n = blk l n := by
  have h1 : (blk l n).length = 136 := blk_len (by omega)
  have h2 : (blk (padB l) n).length = 136 := blk_len (by rw [padB_len]; omega)
  refine getD_ext (by rw [h1, h2]) (fun j hj => ?_)
  rw [h2] at hj
  rw [blk_at _ _ _ hj, blk_at _ _ _ hj, padB_at (by omega)]

theorem blk_last (l : List UInt8) : blk (padB l) (l.length / 136) = padL (l.drop (136 * (l.length / 136))) := by
  have h2 : (blk (padB l) (l.length / 136)).length = 136 := blk_len (by rw [padB_len]; omega)
  refine getD_ext (by rw [h2, padL_length]) (fun j hj => ?_)
  rw [h2] at hj
  have hr : (l.drop (136 * (l.length / 136))).length = l.length % 136 := by rw [List.length_drop]; omega
  obtain ⟨q, hq⟩ : ∃ q, l.length / 136 = q := ⟨_, rfl⟩
  obtain ⟨r, hrr⟩ : ∃ r, l.drop (136 * q) = r := ⟨_, rfl⟩
  rw [hq] at hr ⊢
  rw [hrr] at hr ⊢
  have hp : (padL r).getD j 0 = if j < r.length then r.getD j 0 ||| (if j = 135 then 128 else 0) else (if j = r.length then 6 else 0) ||| (if j = 135 then 128 else 0) := by
    simp only [padL]
    rw [List.getD_eq_getElem?_getD, List.getElem?_map, List.getElem?_range hj]
    rfl
  rw [blk_at _ _ _ hj, hp]
  have hrm := Nat.mod_lt l.length (show 0 < 136 by decide)
  by_cases hlt : j < r.length
  · rw [if_pos hlt, padB_at (by omega), if_neg (by omega), ← hrr]
    have : (l.drop (136 * q)).getD j 0 = l.getD (136 * q + j) 0 := by simp [List.getD_eq_getElem?_getD, List.getElem?_drop]
    rw [this]
    simp
  · have e1 : (136 * q + j = l.length) = (j = r.length) := propext ⟨fun _ => by omega, fun _ => by omega⟩
    have e2 : (136 * q + j = l.length + pzn l) = (j = 135) := by unfold pzn; exact propext ⟨fun _ => by omega, fun _ => by omega⟩
    rw [if_neg hlt, padB_tail l (by omega) (by unfold pzn; omega)]
    simp only [e1, e2]

theorem blocks_pad (l : List UInt8) : ∀ n, n ≤ l.length / 136 → blocksN zeros (padB l) n = blocksN zeros l n
  | 0, _ => rfl
  | n + 1, h => by
    rw [blocksN, blocksN, blocks_pad l n (by omega)]
    have := blk_low l n (by omega)
    unfold blk at this
    rw [this]

theorem blocks_end (l : List UInt8) : blocksN zeros (padB l) (l.length / 136 + 1) = endState l := by
  rw [blocksN, blocks_pad l _ (Nat.le_refl _)]
  have := blk_last l
  unfold blk at this
  rw [this]
  rfl

/-- the lanes of a block -/
def laneX (a : List Nat) (b : List UInt8) (at_ : Nat) : Nat → List Nat
  | 0 => a
  | m + 1 => (laneX a b at_ m).set m (nth (laneX a b at_ m) m ^^^ laneU b (at_ + 8 * m) 8)

theorem laneU_cong {b c : List UInt8} {x y : Nat} (h : ∀ j, j < 8 → b.getD (x + j) 0 = c.getD (y + j) 0) : ∀ m, m ≤ 8 → laneU b x m = laneU c y m
  | 0, _ => rfl
  | m + 1, hm => by
    rw [laneU, laneU, laneU_cong h m (by omega)]
    have := h (7 - m) (by omega)
    rw [show x + 7 - m = x + (7 - m) by omega, show y + 7 - m = y + (7 - m) by omega, this]

theorem laneX_blk (a : List Nat) (b : List UInt8) (n : Nat) : ∀ m, m ≤ 17 → laneX a b (136 * n) m = laneX a (blk b n) 0 m
  | 0, _ => rfl
  | m + 1, hm => by
    rw [laneX, laneX, laneX_blk a b n m (by omega), laneU_cong (c := blk b n) (y := 0 + 8 * m) (fun j hj => by rw [blk_at _ _ _ (by omega)]; congr 1; omega) 8 (Nat.le_refl _)]

theorem laneX_low {a : List Nat} (ha : Low a) (hl : a.length = 25) (b : List UInt8) (at_ : Nat) : ∀ m, Low (laneX a b at_ m) ∧ (laneX a b at_ m).length = 25
  | 0 => ⟨ha, hl⟩
  | m + 1 => ⟨(laneX_low ha hl b at_ m).1.set (xor_low ((laneX_low ha hl b at_ m).1 _) (laneU_low _ _ 8)) _, by simp [laneX, (laneX_low ha hl b at_ m).2]⟩

theorem add_xor (n : Nat) (b : UInt8) : n * 256 + b.toNat = (n * 256) ^^^ b.toNat := by
  have hb : b.toNat < 2 ^ 8 := b.toNat_lt
  apply Nat.eq_of_testBit_eq
  intro i
  have h1 := Nat.shiftLeft_add_eq_or_of_lt hb n
  rw [Nat.shiftLeft_eq] at h1
  rw [show n * 256 = n * 2 ^ 8 from rfl, h1, Nat.testBit_or, Nat.testBit_xor]
  by_cases hi : i < 8
  · rw [← Nat.shiftLeft_eq, Nat.testBit_shiftLeft]
    simp [Nat.not_le.2 hi]
  · rw [Nat.testBit_lt_two_pow (x := b.toNat) (Nat.lt_of_lt_of_le hb (Nat.pow_le_pow_right (by decide) (by omega)))]
    simp

theorem xor_mul (a b k : Nat) : (a ^^^ b) * 2 ^ k = a * 2 ^ k ^^^ b * 2 ^ k := by
  rw [← Nat.shiftLeft_eq, ← Nat.shiftLeft_eq, ← Nat.shiftLeft_eq, Nat.shiftLeft_xor_distrib]

/-- a lane's bytes, one behind the other -/
def laneQ (s : List UInt8) (x : Nat) : Nat → Nat
  | 0 => 0
  | j + 1 => laneQ s x j ^^^ ((s.getD (x + j) 0).toNat * 2 ^ (8 * j))

theorem laneU_rev (s : List UInt8) (x : Nat) : laneU s x 8 = laneQ s x 8 := by
  simp only [laneU, laneQ, Nat.zero_mul, Nat.zero_add, Nat.zero_xor, add_xor]
  simp only [show (256 : Nat) = 2 ^ 8 from rfl, xor_mul, Nat.mul_assoc, ← Nat.pow_add]
  simp only [Nat.mul_zero, Nat.pow_zero, Nat.mul_one, Nat.reduceMul, Nat.reduceAdd, Nat.add_zero, Nat.sub_zero,
    show x + 7 - 1 = x + 6 by omega, show x + 7 - 2 = x + 5 by omega, show x + 7 - 3 = x + 4 by omega, show x + 7 - 4 = x + 3 by omega, show x + 7 - 5 = x + 2 by omega, show x + 7 - 6 = x + 1 by omega, show x + 7 - 7 = x by omega]
  ac_rfl

theorem nth_set_self {l : List Nat} {i : Nat} (v : Nat) (h : i < l.length) : nth (l.set i v) i = v := by
  unfold nth; simp [List.getD_eq_getElem?_getD, h]

theorem absorb_bytes (a : List Nat) (hl : a.length = 25) (s : List UInt8) (i : Nat) (hi : i < 25) : ∀ j, j ≤ 8 → absorbN a s (8 * i + j) = (absorbN a s (8 * i)).set i (nth (absorbN a s (8 * i)) i ^^^ laneQ s (8 * i) j)
  | 0, _ => by
    have : (absorbN a s (8 * i)).length = 25 := by
      generalize 8 * i = k
      induction k with
      | zero => exact hl
      | succ k ih => simp [absorbN, ih]
    simp only [Nat.add_zero, laneQ, Nat.xor_zero]
    apply List.ext_getElem (by simp)
    intro k h1 h2
    rw [List.getElem_set]
    split
    · rename_i h; subst h; unfold nth; rw [List.getD_eq_getElem?_getD, List.getElem?_eq_getElem (by omega)]; rfl
    · rfl
  | j + 1, hj => by
    have hlen : ∀ k, (absorbN a s k).length = 25 := fun k => by
      induction k with
      | zero => exact hl
      | succ k ih => simp [absorbN, ih]
    have hb := (s.getD (8 * i + j) 0).toNat_lt
    have hp : 2 ^ (8 * j) ≤ 2 ^ 56 := Nat.pow_le_pow_right (by decide) (by omega)
    have hm : (s.getD (8 * i + j) 0).toNat * 2 ^ (8 * j) < 18446744073709551616 := by
      have : (s.getD (8 * i + j) 0).toNat * 2 ^ (8 * j) ≤ 255 * 2 ^ 56 := Nat.mul_le_mul (by omega) hp
      exact Nat.lt_of_le_of_lt this (by decide)
    rw [show 8 * i + (j + 1) = (8 * i + j) + 1 by omega, absorbN, absorb_bytes a hl s i hi j (by omega), show (8 * i + j) / 8 = i by omega, show (8 * i + j) % 8 = j by omega, List.set_set, nth_set_self _ (by rw [hlen]; exact hi), Nat.mod_eq_of_lt hm, laneQ, Nat.xor_assoc]

theorem absorb_lanes (a : List Nat) (hl : a.length = 25) (s : List UInt8) : ∀ m, m ≤ 17 → absorbN a s (8 * m) = laneX a s 0 m
  | 0, _ => rfl
  | m + 1, h => by
    rw [laneX, ← absorb_lanes a hl s m (by omega), show 8 * (m + 1) = 8 * m + 8 by omega, absorb_bytes a hl s m (by omega) 8 (Nat.le_refl _), laneU_rev, Nat.zero_add]

/-- a block absorbed -/
theorem absorb_blk {a : List Nat} (hl : a.length = 25) (b : List UInt8) (n : Nat) (h : 136 * (n + 1) ≤ b.length) : permN (laneX a b (136 * n) 17) 24 = absorbF a ((b.drop (136 * n)).take 136) := by
  have := blk_len h
  unfold absorbF perm
  rw [laneX_blk a b n 17 (Nat.le_refl _), ← absorb_lanes a hl _ 17 (Nat.le_refl _)]
  unfold blk at this ⊢
  rw [this]

theorem outN_snoc (a : List Nat) (n : Nat) : outN a n ++ [outB a n] = outN a (n + 1) := by simp [outN, List.range_succ]
theorem outN_len (a : List Nat) (n : Nat) : (outN a n).length = n := by simp [outN]
theorem outB_at (a : List Nat) (i k : Nat) (hk : k < 8) : (outB a (8 * i + k)).toNat = nth a i / 2 ^ (8 * k) % 256 := by
  unfold outB
  rw [show (8 * i + k) / 8 = i by omega, show (8 * i + k) % 8 = k by omega]
  simp

end Go.Proofs.YtimbhnnidohmaaaDoor.W
