/-
  The reference's round in plain words, and that it is the round of the digest. No program.
-/
import Derived.Test.YtimbhnnidohmaaaDoorP
namespace Go.Proofs.YtimbhnnidohmaaaDoor.W
set_option linter.unusedVariables false

/-- the parity of a column -/
def colP (a : List Nat) (x : Nat) : Nat := nth a x ^^^ nth a (x + 5) ^^^ nth a (x + 10) ^^^ nth a (x + 15) ^^^ nth a (x + 20)
def colsP (a : List Nat) (k : Nat) : List Nat := (List.range k).map (colP a)

/-- the second step: rotated lanes, in the order of the loops (x outside, y inside) -/
def bI (m : Nat) : Nat := m % 5 + 5 * ((2 * (m / 5) + 3 * (m % 5)) % 5)
def bV (a : List Nat) (m : Nat) : Nat := rotl (nth a (m / 5 + 5 * (m % 5)) ^^^ nth (colsP a 5) ((m / 5 + 4) % 5) ^^^ rotl (nth (colsP a 5) ((m / 5 + 1) % 5)) 1) (nth turnL (m / 5 + 5 * (m % 5)))
def bW (a : List Nat) : Nat → List Nat
  | 0 => zeros
  | m + 1 => (bW a m).set (bI m) (bV a m)

theorem colsP_low {a : List Nat} (h : Low a) (k : Nat) : Low (colsP a k) := by
  intro j
  unfold nth colsP
  rw [List.getD_eq_getElem?_getD, List.getElem?_map]
  rcases (List.range k)[j]? with _ | y
  · show 0 < _
    omega
  · exact xor_low (xor_low (xor_low (xor_low (h _) (h _)) (h _)) (h _)) (h _)

theorem turn_low (i : Nat) : nth turnL i < 64 := by
  unfold nth
  rw [List.getD_eq_getElem?_getD]
  rcases h : turnL[i]? with _ | x
  · decide
  · have : ∀ y ∈ turnL, y < 64 := by decide
    exact this x (List.mem_of_getElem? h)

theorem bV_low {a : List Nat} (h : Low a) (m : Nat) : bV a m < 18446744073709551616 :=
  rotl_low (xor_low (xor_low (h _) (colsP_low h 5 _)) (rotl_low (colsP_low h 5 _) _)) _

theorem bW_low {a : List Nat} (h : Low a) : ∀ m, Low (bW a m) ∧ (bW a m).length = 25
  | 0 => zeros_low
  | m + 1 => ⟨(bW_low h m).1.set (bV_low h m) _, by simp [bW, (bW_low h m).2]⟩

/-- the third step -/
def cS (b : List Nat) (m : Nat) : List Nat := (List.range m).map (cVal b)
theorem cS_len (b : List Nat) (m : Nat) : (cS b m).length = m := by simp [cS]
theorem cS_succ (b : List Nat) (m : Nat) : cS b m ++ [cVal b m] = cS b (m + 1) := by simp [cS, List.range_succ]

/-- n sets -/
def sets (f : Nat → Nat) (v : Nat → Nat) : Nat → List Nat
  | 0 => zeros
  | m + 1 => (sets f v m).set (f m) (v m)

def sig (m : Nat) : Nat := m / 5 + 5 * (m % 5)

theorem bfold_sets (a p : List Nat) : ∀ k, bfold a p k = sets bIdx (bVal a p) k
  | 0 => rfl
  | k + 1 => by rw [bfold, sets, bfold_sets a p k]

theorem bW_sets (a : List Nat) : ∀ m, m ≤ 25 → bW a m = sets (fun m => bIdx (sig m)) (fun m => bVal a (colsP a 5) (sig m)) m
  | 0, _ => rfl
  | m + 1, h => by
    rw [bW, sets, bW_sets a m (by omega)]
    have e1 : sig m % 5 = m / 5 := by unfold sig; omega
    have e2 : sig m / 5 = m % 5 := by unfold sig; omega
    have h1 : bI m = bIdx (sig m) := by unfold bI bIdx; rw [e1, e2]
    have h2 : bV a m = bVal a (colsP a 5) (sig m) := by unfold bV bVal; rw [e1, Nat.xor_assoc]; rfl
    rw [h1, h2]

theorem sets_perm (v : Nat → Nat) : sets (fun m => bIdx (sig m)) (fun m => v (sig m)) 25 = sets bIdx v 25 := by
  simp [sets, sig, bIdx, zeros, List.replicate]

theorem pfold_nth (a : List Nat) (k x : Nat) : nth (pfold a (k + 1)) x = if k % 5 = x then nth (pfold a k) x ^^^ nth a k else nth (pfold a k) x := by
  have hl : (pfold a k).length = 5 := by
    induction k with
    | zero => rfl
    | succ k ih => simp [pfold, ih]
  rw [pfold]
  unfold nth
  simp only [List.getD_eq_getElem?_getD, List.getElem?_set]
  by_cases h : k % 5 = x
  · have : k % 5 < 5 := Nat.mod_lt _ (by decide)
    rw [if_pos h, if_pos (by omega), if_pos h, h]; rfl
  · rw [if_neg h, if_neg h]

theorem pfold_cols (a : List Nat) : pfold a 25 = colsP a 5 := by
  have hl : ∀ k, (pfold a k).length = 5 := fun k => by
    induction k with
    | zero => rfl
    | succ k ih => simp [pfold, ih]
  have h0 : ∀ x, nth (pfold a 0) x = 0 := fun x => by
    show nth (List.replicate 5 0) x = 0
    unfold nth
    rw [List.getD_eq_getElem?_getD, List.getElem?_replicate]
    split <;> rfl
  have k0 : nth (pfold a 25) 0 = colP a 0 := by simp [pfold_nth, h0, colP]
  have k1 : nth (pfold a 25) 1 = colP a 1 := by simp [pfold_nth, h0, colP]
  have k2 : nth (pfold a 25) 2 = colP a 2 := by simp [pfold_nth, h0, colP]
  have k3 : nth (pfold a 25) 3 = colP a 3 := by simp [pfold_nth, h0, colP]
  have k4 : nth (pfold a 25) 4 = colP a 4 := by simp [pfold_nth, h0, colP]
  have h25 := hl 25
  obtain ⟨q, hq⟩ : ∃ q, pfold a 25 = q := ⟨_, rfl⟩
  rw [hq] at k0 k1 k2 k3 k4 h25 ⊢
  match q, h25 with
  | [q0, q1, q2, q3, q4], _ =>
    rw [show colsP a 5 = [colP a 0, colP a 1, colP a 2, colP a 3, colP a 4] from rfl, ← k0, ← k1, ← k2, ← k3, ← k4]
    rfl

theorem cfold_cS (a b : List Nat) : ∀ k, k ≤ a.length → cfold a b k = cS b k ++ a.drop k
  | 0, _ => by simp [cfold, cS]
  | k + 1, h => by
    rw [cfold, cfold_cS a b k (by omega), ← cS_succ]
    have hd : a.drop k = a[k] :: a.drop (k + 1) := List.drop_eq_getElem_cons (by omega)
    rw [hd, List.set_append_right _ _ (by rw [cS_len]; exact Nat.le_refl _), cS_len, Nat.sub_self]
    simp only [List.set_cons_zero, List.append_assoc, List.cons_append, List.nil_append]

theorem round_ref {a : List Nat} (hl : a.length = 25) (c : Nat) : (cS (bW a 25) 25).set 0 (nth (cS (bW a 25) 25) 0 ^^^ c) = roundS a c := by
  have hb : bW a 25 = bfold a (pfold a 25) 25 := by rw [bW_sets a 25 (Nat.le_refl _), bfold_sets, pfold_cols, sets_perm]
  have hc : cfold a (bfold a (pfold a 25) 25) 25 = cS (bW a 25) 25 := by
    rw [cfold_cS _ _ _ (by omega), ← hb, List.drop_eq_nil_of_le (by omega), List.append_nil]
  unfold roundS
  rw [hc]

end Go.Proofs.YtimbhnnidohmaaaDoor.W
