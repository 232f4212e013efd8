/-
  RelocBack: the plain law.
-/
import Derived.Test.YtmngicdgapkbmaaDoorFt
namespace Go.Proofs.YtmngicdgapkbmaaDoor.W
open Go.RowKit
set_option linter.unusedVariables false

theorem ok_fits {k v : Int} (hv : i64R v) (hk : isK k = true) (hf : fits15 k v = true) (s : ByteArray) (a : Int) :
    putOk s a (sizeI k) v = fieldB s.size a (sizeI k) ∧ (sizeI k = 8 ∨ fitsB v (8 * sizeI k) (!decide (k = 3)) = true) := by
  have hg : sizeI k = 8 ∨ fitsB v (8 * sizeI k) (!decide (k = 3)) = true := by
    by_cases h3 : k = 3
    · subst h3
      have := (f_3 v).1 hf
      right; rw [show sizeI 3 = 2 by decide]; simp [fitsB]; omega
    · by_cases h6 : k = 6
      · subst h6
        have := (f_6 v).1 hf
        right; rw [show sizeI 6 = 4 by decide]; simp [fitsB]; omega
      · rcases (fit_law hv hk).z with hz | hz | hz
        · exact .inl hz
        · have := (f_4 hk h3 h6 hz v).1 hf
          right; rw [hz, decide_eq_false h3]; simp [fitsB]; omega
        · have hk' := hk
          unfold isK at hk'
          have hk2 : 0 ≤ k ∧ k < 13 := by simpa using hk'
          exfalso
          rcases (by omega : k = 0 ∨ k = 1 ∨ k = 2 ∨ k = 4 ∨ k = 5 ∨ k = 7 ∨ k = 8 ∨ k = 9 ∨ k = 10 ∨ k = 11 ∨ k = 12) with rfl | rfl | rfl | rfl | rfl | rfl | rfl | rfl | rfl | rfl | rfl
          all_goals exact absurd hz (by decide)
  refine ⟨?_, hg⟩
  unfold putOk
  rcases hF : fieldB s.size a (sizeI k) with _ | _
  · rfl
  · rw [Bool.true_and]
    rcases hg with h | h
    · have : fitsB v (8 * sizeI k) true = true := by rw [h]; unfold i64R at hv; simp [fitsB]; omega
      rw [this, Bool.or_true]
    · rcases fits_or h with h | h <;> rw [h]
      · rfl
      · rw [Bool.or_true]

theorem putL_out (s : ByteArray) (a k : Nat) (v : Int) (j : Nat) (hj : j < s.size) (h : j < a ∨ a + k ≤ j) : (putL s a k v)[j]? = some s[j] := by
  have hl : j < (putL s a k v).length := by rw [putL_len]; exact hj
  rw [List.getElem?_eq_getElem hl]
  congr 1
  simp only [putL, List.getElem_map, List.getElem_range]
  unfold mixed
  rw [if_neg (by omega), dif_pos hj]
  simp

def canB (s : ByteArray) (x k v : Int) : Bool :=
  wPre s x k v && (decide (offI k + sizeI k ≤ s.size - x) && (!code15 k || (rightB (byteAt s x.toNat) (byteAt s (x.toNat + 1)) (byteAt s (x.toNat + 2)) (byteAt s (x.toNat + 3)) v && decide (byteAt s x.toNat ∈ kOps k.toNat))))

structure BackLaw (s : ByteArray) (x k v : Int) (t : ByteArray) : Prop where
  w : write15 s x k v = (t, true)
  r : read15 t x k = (v, true)
  z : t.size = s.size
  o : ∀ j : Nat, j < s.size → ((j : Int) < x + offI k ∨ x + offI k + sizeI k ≤ j) → t.data.toList[j]? = s.data.toList[j]?
  d : code15 k = true → decB t x = true ∧ immAt t x.toNat = v ∧ offI k = 4 ∧ sizeI k = 4

theorem code_size {k : Int} (h : code15 k = true) (hk : isK k = true) : offI k = 4 ∧ sizeI k = 4 := by
  have hk' := hk
  unfold isK at hk'
  have hk2 : 0 ≤ k ∧ k < 13 := by simpa using hk'
  rcases (by omega : k = 0 ∨ k = 1 ∨ k = 2 ∨ k = 3 ∨ k = 4 ∨ k = 5 ∨ k = 6 ∨ k = 7 ∨ k = 8 ∨ k = 9 ∨ k = 10 ∨ k = 11 ∨ k = 12) with rfl | rfl | rfl | rfl | rfl | rfl | rfl | rfl | rfl | rfl | rfl | rfl | rfl
  all_goals (first | exact absurd h (by decide) | exact ⟨by decide, by decide⟩)

theorem byteAt_same {s t : ByteArray} {j : Nat} (h : t.data.toList[j]? = s.data.toList[j]?) : byteAt t j = byteAt s j := by
  unfold byteAt; rw [List.getD_eq_getElem?_getD, List.getD_eq_getElem?_getD, h]

theorem back_yes {s : ByteArray} {x k v : Int} (hv : i64R v) (hk : isK k = true) (hc : canB s x k v = true) : ∃ t, BackLaw s x k v t := by
  unfold canB at hc
  simp only [Bool.and_eq_true] at hc
  obtain ⟨hp, hl, hcd⟩ := hc
  have hp' := hp
  unfold wPre at hp'
  simp only [Bool.and_eq_true, decide_eq_true_eq] at hp' hl
  obtain ⟨hf, hx0, hx1⟩ := hp'
  have L := fit_law hv hk
  have ho : 0 ≤ offI k := by
    obtain ⟨n, rfl, hn⟩ := isK_nat hk
    unfold offI; rw [hk]; exact (kOff_le n hn).1
  obtain ⟨x, rfl⟩ := Int.eq_ofNat_of_zero_le hx0
  obtain ⟨a, ha⟩ := Int.eq_ofNat_of_zero_le (show 0 ≤ (x : Int) + offI k by omega)
  obtain ⟨z, hz⟩ := Int.eq_ofNat_of_zero_le (show 0 ≤ sizeI k by have := L.z; omega)
  have hz' := L.z
  obtain ⟨hok, hg⟩ := ok_fits hv hk hf s (x + offI k)
  have hF : fieldB s.size (x + offI k) (sizeI k) = true := by rw [fieldB_iff]; omega
  rw [hF] at hok
  have hb := back_sg (s := s) (a := x + offI k) (k := sizeI k) (!decide (k = 3)) hv.1 hv.2 hok hg
  obtain ⟨t, ht⟩ : ∃ t, putS s (x + offI k) (sizeI k) v = t := ⟨_, rfl⟩
  have et : t = ⟨(putL s a z v).toArray⟩ := by rw [← ht, putS, if_pos hok, ha, hz]; simp
  rw [ht] at hb
  have hout : ∀ j : Nat, j < s.size → ((j : Int) < x + offI k ∨ x + offI k + sizeI k ≤ j) → t.data.toList[j]? = s.data.toList[j]? := by
    intro j hj h
    rw [et, show (⟨(putL s a z v).toArray⟩ : ByteArray).data.toList = putL s a z v from rfl, putL_out s a z v j hj (by omega)]
    rw [List.getElem?_eq_getElem (show j < s.data.toList.length from hj)]; rfl
  have hdec : code15 k = true → decB t x = true ∧ immAt t x = v ∧ offI k = 4 ∧ sizeI k = 4 ∧ byteAt t x ∈ kOps k.toNat := by
    intro h
    obtain ⟨o4, z4⟩ := code_size h hk
    have hn4 : z = 4 := by omega
    have ha4 : a = x + 4 := by omega
    subst hn4 ha4
    have himm : immAt t x = v := by
      unfold immAt
      rw [et, cut_put s (x + 4) 4 v (by omega), le_byteL]
      exact get_back_sg v 4 true (by decide) hv.1 hv.2 (.inr (by
        rcases hg with h' | h'
        · omega
        · rw [z4] at h'
          have h3 : k ≠ 3 := fun e => by subst e; exact absurd z4 (by decide)
          rw [decide_eq_false h3] at h'; exact h'))
    have b0 := byteAt_same (hout x (by omega) (by omega))
    have b1 := byteAt_same (hout (x + 1) (by omega) (by omega))
    have b2 := byteAt_same (hout (x + 2) (by omega) (by omega))
    have b3 := byteAt_same (hout (x + 3) (by omega) (by omega))
    rw [h] at hcd
    simp only [Bool.not_true, Bool.false_or, Bool.and_eq_true, decide_eq_true_eq, Int.toNat_natCast] at hcd
    refine ⟨?_, himm, o4, z4, by rw [b0]; exact hcd.2⟩
    unfold decB insAt
    rw [Int.toNat_natCast, himm, b0, b1, b2, b3, hcd.1, decide_eq_true (by rw [hb.2]; omega)]; rfl
  refine ⟨t, ?_, ?_, hb.2, hout, fun h => ?_⟩
  · unfold write15
    rw [if_pos hp]
    unfold wIns wOk wOut
    rw [ht, hok]
    rcases hc : code15 k with _ | _
    · rfl
    · obtain ⟨d1, d2, d3, d4, d5⟩ := hdec hc
      rw [if_pos (show (true && true) = true from rfl), d1, Int.toNat_natCast, decide_eq_true d5, decide_eq_true (by omega)]; rfl
  · unfold read15
    have : readOk t x k = true := by unfold readOk; rw [hk, hb.2, decide_eq_true (by omega)]; rfl
    rw [if_pos this]
    exact hb.1
  · obtain ⟨d1, d2, d3, d4, d5⟩ := hdec h
    exact ⟨d1, by rw [Int.toNat_natCast]; exact d2, d3, d4⟩

theorem back_no {s : ByteArray} {x k v : Int} (hv : i64R v) (hk : isK k = true) (hc : canB s x k v = false) : write15 s x k v = (⟨#[]⟩, false) := by
  rcases hp : wPre s x k v with _ | _
  · unfold write15; rw [hp]; rfl
  · have hp' := hp
    unfold wPre at hp'
    simp only [Bool.and_eq_true, decide_eq_true_eq] at hp'
    obtain ⟨hf, hx0, hx1⟩ := hp'
    have L := fit_law hv hk
    have ho : 0 ≤ offI k := by
      obtain ⟨n, rfl, hn⟩ := isK_nat hk
      unfold offI; rw [hk]; exact (kOff_le n hn).1
    have hz' := L.z
    obtain ⟨hok, hg⟩ := ok_fits hv hk hf s (x + offI k)
    unfold canB at hc
    rw [hp, Bool.true_and] at hc
    by_cases hl : offI k + sizeI k ≤ s.size - x
    · rw [decide_eq_true hl, Bool.true_and] at hc
      have hF : fieldB s.size (x + offI k) (sizeI k) = true := by rw [fieldB_iff]; omega
      rw [hF] at hok
      rcases hcode : code15 k with _ | _
      · rw [hcode] at hc; cases hc
      · rw [hcode] at hc
        obtain ⟨o4, z4⟩ := code_size hcode hk
        obtain ⟨x, rfl⟩ := Int.eq_ofNat_of_zero_le hx0
        have et : putS s ((x : Int) + offI k) (sizeI k) v = ⟨(putL s (x + 4) 4 v).toArray⟩ := by
          rw [putS, if_pos hok, o4, z4]
          rw [show ((x : Int) + 4).toNat = x + 4 by omega]; rfl
        obtain ⟨t, ht⟩ : ∃ t, putS s ((x : Int) + offI k) (sizeI k) v = t := ⟨_, rfl⟩
        have et' : t = ⟨(putL s (x + 4) 4 v).toArray⟩ := by rw [← ht]; exact et
        have hout : ∀ j : Nat, j < s.size → j < x + 4 → t.data.toList[j]? = s.data.toList[j]? := by
          intro j hj h
          rw [et', show (⟨(putL s (x + 4) 4 v).toArray⟩ : ByteArray).data.toList = putL s (x + 4) 4 v from rfl, putL_out s (x + 4) 4 v j hj (by omega)]
          rw [List.getElem?_eq_getElem (show j < s.data.toList.length from hj)]; rfl
        have himm : immAt t x = v := by
          unfold immAt
          rw [et', cut_put s (x + 4) 4 v (by omega), le_byteL]
          exact get_back_sg v 4 true (by decide) hv.1 hv.2 (.inr (by
            rcases hg with h' | h'
            · omega
            · rw [z4] at h'
              have h3 : k ≠ 3 := fun e => by subst e; exact absurd z4 (by decide)
              rw [decide_eq_false h3] at h'; exact h'))
        have b0 := byteAt_same (hout x (by omega) (by omega))
        have b1 := byteAt_same (hout (x + 1) (by omega) (by omega))
        have b2 := byteAt_same (hout (x + 2) (by omega) (by omega))
        have b3 := byteAt_same (hout (x + 3) (by omega) (by omega))
        have hins : wIns s x k v = false := by
          unfold wIns wOut
          rw [ht]
          unfold decB insAt
          simp only [Int.toNat_natCast] at hc ⊢
          simp only [himm, b0, b1, b2, b3]
          simp only [Bool.not_true, Bool.false_or] at hc
          rcases hr : rightB (byteAt s x) (byteAt s (x + 1)) (byteAt s (x + 2)) (byteAt s (x + 3)) v with _ | _
          · rw [Bool.and_false]; rfl
          · rw [hr, Bool.true_and] at hc
            rw [hc, Bool.and_false, Bool.and_false]
        unfold write15
        rw [if_pos hp, hins, hcode]
        unfold wOk
        rw [hok]; rfl
    · have hF : fieldB s.size (x + offI k) (sizeI k) = false := by
        rw [← Bool.not_eq_true, fieldB_iff]; omega
      rw [hF] at hok
      unfold write15 wOk wOut
      rw [if_pos hp, hok, putS, hok]; rfl

end Go.Proofs.YtmngicdgapkbmaaDoor.W
