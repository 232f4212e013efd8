/-
  The walk of Open.
-/
import Derived.Test.YtmcdfhihfcfbaaaJAp
namespace Go.Proofs.Ytmcdfhihfcfbaaa.W
open Go.RowKit
set_option linter.unusedVariables false

def openP (σ : St) (f : Int) : Nat × List ByteArray :=
  if f < 0 ∨ 6 < f then (1, []) else if mayS σ f ≠ 0 then (mayS σ f, []) else match openL (σ.files.getD f.toNat []) with | none => (2, []) | some rs => (0, rs)

theorem parseF_len : ∀ (n : Nat) (t : List UInt8) (rs : List ByteArray), parseF n t = some rs → (formsL rs).length = t.length
  | 0, t, rs, h => by
    rw [parseF] at h
    split at h
    · rename_i ht; subst ht; cases h; rfl
    · cases h
  | n + 1, t, rs, h => by
    rw [parseF] at h
    split at h
    · rename_i ht; subst ht; cases h; rfl
    · split at h
      · cases h
      · split at h
        · cases h
        · rename_i h8 hn
          rcases hp : parseF n (t.drop (8 + (numOf t).toNat)) with _ | r
          · rw [hp] at h; cases h
          · rw [hp] at h
            cases h
            have := parseF_len n _ r hp
            rw [formsL_cons, List.length_append, formL_len, this, List.length_drop]
            have hs : (⟨((t.drop 8).take (numOf t).toNat).toArray⟩ : ByteArray).size = min (numOf t).toNat (t.length - 8) := by
              show ((t.drop 8).take (numOf t).toNat).length = _
              rw [List.length_take, List.length_drop]
            rw [hs]
            omega
/-- more fuel than bytes changes nothing -/
theorem parseF_fuel : ∀ (n m : Nat) (t : List UInt8), t.length ≤ n → t.length ≤ m → parseF n t = parseF m t
  | 0, m, t, h, _ => by
    have : t = [] := List.eq_nil_of_length_eq_zero (by omega)
    subst this
    cases m <;> rfl
  | n + 1, 0, t, _, h => by
    have : t = [] := List.eq_nil_of_length_eq_zero (by omega)
    subst this
    rfl
  | n + 1, m + 1, t, h1, h2 => by
    rw [parseF, parseF]
    split
    · rfl
    · split
      · rfl
      · split
        · rfl
        · rw [parseF_fuel n m _ (by rw [List.length_drop]; omega) (by rw [List.length_drop]; omega)]

theorem parse_step (t : List UInt8) (h : t ≠ []) : parse t = if t.length < 8 then none else if numOf t < 0 ∨ (t.length : Int) - 8 < numOf t then none else (parse (t.drop (8 + (numOf t).toNat))).map (⟨((t.drop 8).take (numOf t).toNat).toArray⟩ :: ·) := by
  unfold parse
  obtain ⟨n, hn⟩ : ∃ n, t.length = n + 1 := ⟨t.length - 1, by have := List.length_pos_iff.2 h; omega⟩
  have e : parseF t.length t = parseF (n + 1) t := by rw [hn]
  rw [e, parseF, if_neg h]
  split
  · rfl
  · split
    · rfl
    · rw [parseF_fuel n _ _ (by rw [List.length_drop]; omega) (Nat.le_refl _)]
theorem parse_nil : parse [] = some [] := rfl

theorem openL_cases (s : List UInt8) (h16 : ¬ s.length < 16) : openL s = if numOf s = 0 then some [] else if numOf s < 16 ∨ (s.length : Int) < numOf s then none else
    (parse ((s.take (numOf s).toNat).drop 16)).bind fun rs => if (rs.length : Int) = numOf (s.drop 8) then some rs else none := by
  rw [openL, if_neg h16]

/-- Get of eight bytes reads numOf -/
theorem getP_num (s : ByteArray) (k : Nat) (h : k + 8 ≤ s.size) : Wd.getP s k 8 true = (numOf (s.data.toList.drop k), true) := by
  have hf : Wd.fieldB s.size k 8 = true := Wd.fieldB_iff.2 ⟨by simp, by omega, by omega⟩
  rw [Wd.getP, if_pos hf]
  rfl
theorem getP_no (s : ByteArray) (k : Nat) (h : s.size < k + 8) : Wd.getP s k 8 true = (0, false) := by
  have hf : ¬ Wd.fieldB s.size k 8 = true := fun h' => by have := Wd.fieldB_iff.1 h'; omega
  rw [Wd.getP, if_neg hf]

theorem numOf_lt (t : List UInt8) : -9223372036854775808 ≤ numOf t ∧ numOf t ≤ 9223372036854775807 := by
  unfold numOf Wd.getI
  have := Wd.le_lt (t.take 8)
  have hl : (t.take 8).length ≤ 8 := List.length_take_le _ _
  have h2 : (256 : Nat) ^ (t.take 8).length ≤ 256 ^ 8 := Nat.pow_le_pow_right (by decide) hl
  have h3 : (256 : Nat) ^ 8 = 18446744073709551616 := by decide
  split
  · rename_i h; simp at h; omega
  · rename_i h; simp at h; omega

end Go.Proofs.Ytmcdfhihfcfbaaa.W
