/-
  RelocFits: the plain law.
-/
import Derived.Test.YtmngicdgapkbmaaDoorHf
namespace Go.Proofs.YtmngicdgapkbmaaDoor.W
open Go.RowKit
set_option linter.unusedVariables false

theorem wr_gen {k v : Int} (z : Int) (hv : i64R v) (hk : isK k = true) (hc : code15 k = false) (ho : offI k = 0) (hz : sizeI k = z) (hz' : z = 8 ∨ z = 4 ∨ z = 2)
    (hf : fits15 k v = true) (hok : putOk e8 0 z v = true) (hg : z = 8 ∨ fitsB v (8 * z) (!decide (k = 3)) = true) :
    write15 e8 0 k v = (putS e8 0 z v, true) ∧ read15 (putS e8 0 z v) 0 k = (v, true) ∧ (putS e8 0 z v).size = 8 ∧ (putS e8 0 z v).extract z.toNat 8 = e8.extract z.toNat 8 := by
  unfold i64R at hv
  have hb := back_sg (s := e8) (a := 0) (k := z) (!decide (k = 3)) hv.1 hv.2 hok hg
  have hp : wPre e8 0 k v = true := by unfold wPre; rw [hf]; decide
  refine ⟨?_, ?_, hb.2, ?_⟩
  · unfold write15; rw [if_pos hp, hc]
    unfold wOk wOut; rw [ho, hz]
    rw [show (0 : Int) + 0 = 0 from rfl, hok]; rfl
  · unfold read15
    have : readOk (putS e8 0 z v) 0 k = true := by unfold readOk; rw [hb.2, hk]; decide
    rw [if_pos this, ho, hz]
    exact hb.1
  · obtain ⟨y, rfl⟩ := Int.eq_ofNat_of_zero_le (show 0 ≤ z by omega)
    have e : putS e8 0 y v = ⟨(putL e8 0 y v).toArray⟩ := by rw [putS, if_pos hok]; rfl
    rw [e]
    have := (put_parts (s := e8) (a := 0) (k := y) (n := v) (by rw [e8_size]; omega)).2
    rw [Nat.zero_add, e8_size] at this
    exact this

theorem fits_none {k : Int} (h : isK k = false) (v : Int) : fits15 k v = false ∧ offI k = 0 ∧ sizeI k = 0 ∧ code15 k = false ∧ (∀ t, direct15 k t = false) ∧ val15 k ⟨v, 1, 0, 0, 0, 2, 0⟩ = 0 := by
  have hk : k < 0 ∨ 12 < k := by unfold isK at h; simp at h; omega
  refine ⟨?_, ?_, ?_, ?_, ?_, ?_⟩
  · unfold fits15; rw [if_neg (by omega), if_neg (by omega), h]; rfl
  · unfold offI; rw [h]; rfl
  · unfold sizeI; rw [h]; rfl
  · unfold code15; rw [h]; rfl
  · intro t; unfold direct15; rw [h, decide_eq_false (show ¬ k = 6 by omega), decide_eq_false (show ¬ k = 7 by omega)]; simp
  · unfold val15
    rw [if_neg (by omega), if_neg (by omega), if_neg (by omega), if_neg (by omega), if_neg (by omega), if_neg (by omega), if_neg (by omega), if_neg (by omega), if_neg (by omega)]

structure FitLaw (k v : Int) : Prop where
  z : sizeI k = 8 ∨ sizeI k = 4 ∨ sizeI k = 2
  f0 : fits15 k 0 = true
  f8 : sizeI k = 8 → fits15 k v = true
  h : fits15 k v = true → fits15 k ((v.tdiv 2).tdiv 8 * 8) = true
  n : fits15 k v = true → k ≠ 3 → -128 < v → v < 128 → fits15 k (-v) = true
  c : code15 k = true → offI k = 4
  w0 : fits15 k v = false → write15 e8 0 k v = (⟨#[]⟩, false)
  w : code15 k = false → fits15 k v = true → write15 e8 0 k v = (putS e8 0 (sizeI k) v, true) ∧ read15 (putS e8 0 (sizeI k) v) 0 k = (v, true) ∧ (putS e8 0 (sizeI k) v).size = 8 ∧ (putS e8 0 (sizeI k) v).extract (sizeI k).toNat 8 = e8.extract (sizeI k).toNat 8

theorem f_8 {k : Int} (hk : isK k = true) (h3 : k ≠ 3) (h6 : k ≠ 6) (hz : sizeI k = 8) (v : Int) : fits15 k v = true := by
  unfold fits15; rw [if_neg h3, if_neg h6, hk, hz]; rfl
theorem f_4 {k : Int} (hk : isK k = true) (h3 : k ≠ 3) (h6 : k ≠ 6) (hz : sizeI k = 4) (v : Int) : fits15 k v = true ↔ (-2147483648 ≤ v ∧ v < 2147483648) := by
  unfold fits15; rw [if_neg h3, if_neg h6, hk, hz]; simp [fitsB]
theorem f_3 (v : Int) : fits15 3 v = true ↔ (0 ≤ v ∧ v < 65536) := by simp [fits15]
theorem f_6 (v : Int) : fits15 6 v = true ↔ (v % 8 = 0 ∧ -512 ≤ v ∧ v < 512) := by simp [fits15]
theorem w_none {k v : Int} (h : fits15 k v = false) : write15 e8 0 k v = (⟨#[]⟩, false) := by unfold write15 wPre; rw [h]; rfl
theorem half_eq (v : Int) : (v.tdiv 2).tdiv 8 * 8 = if 0 ≤ v then v / 16 * 8 else -((-v) / 16 * 8) := by
  split
  · have h1 : v.tdiv 2 = v / 2 := Int.tdiv_eq_ediv_of_nonneg (by omega)
    rw [h1, Int.tdiv_eq_ediv_of_nonneg (by omega)]; omega
  · have h1 : v.tdiv 2 = -((-v) / 2) := by
      rw [show v = -(-v) by omega, Int.neg_tdiv, Int.tdiv_eq_ediv_of_nonneg (by omega)]; simp
    rw [h1, Int.neg_tdiv, Int.tdiv_eq_ediv_of_nonneg (by omega)]; omega

theorem law_8 {k v : Int} (hv : i64R v) (hk : isK k = true) (h3 : k ≠ 3) (h6 : k ≠ 6) (hz : sizeI k = 8) (hc : code15 k = false) (ho : offI k = 0) : FitLaw k v where
  z := .inl hz
  f0 := f_8 hk h3 h6 hz _
  f8 _ := f_8 hk h3 h6 hz _
  h _ := f_8 hk h3 h6 hz _
  n _ _ _ _ := f_8 hk h3 h6 hz _
  c h := by rw [hc] at h; cases h
  w0 h := w_none h
  w _ hf := by rw [hz]; exact wr_gen 8 hv hk hc ho hz (.inl rfl) hf (ok_8 e8 0 v (by decide) hv.1 hv.2) (.inl rfl)

theorem law_4 {k v : Int} (hv : i64R v) (hk : isK k = true) (h3 : k ≠ 3) (h6 : k ≠ 6) (hz : sizeI k = 4) (hc : (code15 k = false ∧ offI k = 0) ∨ offI k = 4) : FitLaw k v where
  z := .inr (.inl hz)
  f0 := (f_4 hk h3 h6 hz _).2 (by decide)
  f8 h := by rw [hz] at h; cases h
  h h := by rw [f_4 hk h3 h6 hz] at h ⊢; rw [half_eq]; split <;> omega
  n h _ _ _ := by rw [f_4 hk h3 h6 hz] at h ⊢; omega
  c h := by rcases hc with ⟨h', _⟩ | h'; · rw [h'] at h; cases h
            · exact h'
  w0 h := w_none h
  w hc' hf := by
    rcases hc with ⟨_, ho⟩ | h'
    · have hf' := (f_4 hk h3 h6 hz v).1 hf
      have : fitsB v (8 * 4) true = true := by simp [fitsB]; omega
      rw [hz]; exact wr_gen 4 hv hk hc' ho hz (.inr (.inl rfl)) hf (by unfold putOk; rw [this]; simp; decide) (.inr (by rw [decide_eq_false h3]; exact this))
    · exfalso
      have hk' := hk
      unfold isK at hk'
      have hk2 : 0 ≤ k ∧ k < 13 := by simpa using hk'
      rcases (by omega : k = 0 ∨ k = 1 ∨ k = 2 ∨ k = 3 ∨ k = 4 ∨ k = 5 ∨ k = 6 ∨ k = 7 ∨ k = 8 ∨ k = 9 ∨ k = 10 ∨ k = 11 ∨ k = 12) with rfl | rfl | rfl | rfl | rfl | rfl | rfl | rfl | rfl | rfl | rfl | rfl | rfl
      all_goals (first | (revert hc'; decide) | (revert h'; decide))

theorem law_3 {v : Int} (hv : i64R v) : FitLaw 3 v where
  z := .inr (.inr (by decide))
  f0 := by decide
  f8 h := absurd h (by decide)
  h h := by rw [f_3] at h ⊢; rw [half_eq]; split <;> omega
  n _ h := absurd rfl h
  c h := by revert h; decide
  w0 h := w_none h
  w hc hf := by
    have hf' := (f_3 v).1 hf
    have : fitsB v (8 * 2) false = true := by simp [fitsB]; omega
    exact wr_gen 2 hv (by decide) hc (by decide) (by decide) (.inr (.inr rfl)) hf (by unfold putOk; rw [this, Bool.true_or]; decide) (.inr this)

theorem law_6 {v : Int} (hv : i64R v) : FitLaw 6 v where
  z := .inr (.inl (by decide))
  f0 := by decide
  f8 h := absurd h (by decide)
  h h := by rw [f_6] at h ⊢; rw [half_eq]; split <;> omega
  n h _ _ _ := by rw [f_6] at h ⊢; omega
  c _ := by decide
  w0 h := w_none h
  w hc := absurd hc (by decide)

theorem fit_law {k v : Int} (hv : i64R v) (hk : isK k = true) : FitLaw k v := by
  have hk' := hk
  unfold isK at hk'
  have hk2 : 0 ≤ k ∧ k < 13 := by simpa using hk'
  rcases (by omega : k = 0 ∨ k = 1 ∨ k = 2 ∨ k = 3 ∨ k = 4 ∨ k = 5 ∨ k = 6 ∨ k = 7 ∨ k = 8 ∨ k = 9 ∨ k = 10 ∨ k = 11 ∨ k = 12) with rfl | rfl | rfl | rfl | rfl | rfl | rfl | rfl | rfl | rfl | rfl | rfl | rfl
  · exact law_8 hv hk (by decide) (by decide) (by decide) (by decide) (by decide)
  · exact law_8 hv hk (by decide) (by decide) (by decide) (by decide) (by decide)
  · exact law_4 hv hk (by decide) (by decide) (by decide) (.inl (by decide))
  · exact law_3 hv
  · exact law_8 hv hk (by decide) (by decide) (by decide) (by decide) (by decide)
  · exact law_4 hv hk (by decide) (by decide) (by decide) (.inr (by decide))
  · exact law_6 hv
  · exact law_4 hv hk (by decide) (by decide) (by decide) (.inr (by decide))
  · exact law_4 hv hk (by decide) (by decide) (by decide) (.inr (by decide))
  · exact law_4 hv hk (by decide) (by decide) (by decide) (.inr (by decide))
  · exact law_4 hv hk (by decide) (by decide) (by decide) (.inr (by decide))
  · exact law_8 hv hk (by decide) (by decide) (by decide) (by decide) (by decide)
  · exact law_8 hv hk (by decide) (by decide) (by decide) (by decide) (by decide)

end Go.Proofs.YtmngicdgapkbmaaDoor.W
