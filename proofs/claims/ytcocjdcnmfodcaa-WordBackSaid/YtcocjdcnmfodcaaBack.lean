/-
  The walk of WordBack: for every input the law's text returns true. No condition.
-/
import Derived.Test.YtcocjdcnmfodcaaRanges
import Derived.Deep.QuietTactic
import Derived.BigQuiet
import Derived.WalkSmall
namespace Go.Proofs.Ytcocjdcnmfodcaa.W
open Go.RowKit
set_option linter.unusedVariables false
set_option linter.unusedSimpArgs false

set_option maxHeartbeats 1600000 in
theorem back_walk (s : ByteArray) (a k n : Int) (sg : Bool) (hs : s.size ≤ maxLen) (ha : -9223372036854775808 ≤ a ∧ a ≤ 9223372036854775807) (hk : -9223372036854775808 ≤ k ∧ k ≤ 9223372036854775807) (hn : -9223372036854775808 ≤ n ∧ n ≤ 9223372036854775807) (w : World) :
    Calls Try.prog 4 #[.string s, .int .i64 a, .int .i64 k, .int .i64 n, .bool sg] w fun e w' => e = .returned (.bool true) ∧ Below w.heap.size w w' := by
  obtain ⟨h1, h2⟩ := hn
  have hs' := hs
  unfold maxLen at hs
  by_cases hl : s.size ≤ 1000
  · by_cases hf : fieldB s.size a k = true
    · obtain ⟨q1, q2, p3, p4, _⟩ := put_back (sg := sg) hf
      have HG := Lib.hid (show getP s a k sg = ((getP s a k sg).1, true) by rw [getP, if_pos hf])
      have HO1 := Lib.hid q1
      have HT1 := Lib.hid q2
      clear q1 q2
      generalize (getP s a k sg).1 = m at *
      have hbk := fun h => back_put (s := s) (a := a) (k := k) hs' h1 h2 h
      cases hok : putOk s a k n
      · have HO2 := Lib.hid hok
        have HT2 := Lib.hid (show putS s a k n = ⟨#[]⟩ by rw [putS, if_neg (by rw [hok]; decide)]; rfl)
        clear hok hbk
        go_enter Try.func4, Try.ntmps4
        go_wp2_with (first | (go_at_call 8; refine (small_any _).mono ?_; rintro e w1 ⟨rfl, hb1⟩) | (go_at_call 9; refine (get_at hs' HG.out _).mono ?_; rintro e w' ⟨rfl, rfl⟩) | (go_at_call 11; ((with_reducible refine (put_at hl p3 p4 HO1.out HT1.out _).mono ?_); rintro e w2 ⟨rfl, hb2⟩)) | (go_at_call 11; ((with_reducible refine (put_at hl h1 h2 HO2.out HT2.out _).mono ?_); rintro e w3 ⟨rfl, hb3⟩)))
        go_ret
        exact ⟨rfl, hb1.trans ((hb2.mono hb1.size).trans (hb3.mono (Nat.le_trans hb1.size hb2.size)))⟩
      · have HO2 := Lib.hid hok
        obtain ⟨t, ht⟩ : ∃ t, putS s a k n = t := ⟨_, rfl⟩
        obtain ⟨g1, g2⟩ := hbk hok
        obtain ⟨k1, k2, k3⟩ := fieldB_iff.1 hf
        obtain ⟨a, rfl⟩ := Int.eq_ofNat_of_zero_le k2
        obtain ⟨k, rfl⟩ := Int.eq_ofNat_of_zero_le (show 0 ≤ k by omega)
        have gx := put_parts (s := s) (a := a) (k := k) (n := n) (by omega)
        have gp : putS s a k n = ⟨(putL s a k n).toArray⟩ := by rw [putS, if_pos hok]; simp
        rw [← gp, ht] at gx
        rw [ht] at g1 g2
        have HT2 := Lib.hid ht
        have HG2 := Lib.hid g1
        obtain ⟨x1, x2⟩ := gx
        have ht' : t.size ≤ maxLen := by rw [g2]; exact hs'
        have hak : a + k ≤ s.size := by omega
        clear g1 gp ht hok hbk hf k1 k2 k3
        go_enter Try.func4, Try.ntmps4
        go_wp2_with (first | (go_at_call 8; refine (small_any _).mono ?_; rintro e w1 ⟨rfl, hb1⟩) | (go_at_call 9; ((with_reducible refine (get_at hs' HG.out _).mono ?_); rintro e w' ⟨rfl, rfl⟩)) | (go_at_call 9; ((with_reducible refine (get_at ht' HG2.out _).mono ?_); rintro e w' ⟨rfl, rfl⟩)) | (go_at_call 11; ((with_reducible refine (put_at hl p3 p4 HO1.out HT1.out _).mono ?_); rintro e w2 ⟨rfl, hb2⟩)) | (go_at_call 11; ((with_reducible refine (put_at hl h1 h2 HO2.out HT2.out _).mono ?_); rintro e w3 ⟨rfl, hb3⟩)))
        go_quiet (fail)
        go_wp2
        go_ret
        exact ⟨rfl, below_drewN (hb1.trans ((hb2.mono hb1.size).trans (hb3.mono (Nat.le_trans hb1.size hb2.size)))) _⟩
    · have HG := Lib.hid (show getP s a k sg = (0, false) by rw [getP, if_neg hf])
      have hok : putOk s a k n = false := by simp [putOk, hf]
      have HO2 := Lib.hid hok
      have HT2 := Lib.hid (show putS s a k n = ⟨#[]⟩ by rw [putS, if_neg (by rw [hok]; decide)]; rfl)
      clear hok
      go_enter Try.func4, Try.ntmps4
      go_wp2_with (first | (go_at_call 8; refine (small_any _).mono ?_; rintro e w1 ⟨rfl, hb1⟩) | (go_at_call 9; refine (get_at hs' HG.out _).mono ?_; rintro e w' ⟨rfl, rfl⟩) | (go_at_call 11; ((with_reducible refine (put_at hl h1 h2 HO2.out HT2.out _).mono ?_); rintro e w3 ⟨rfl, hb3⟩)))
      go_ret
      exact ⟨rfl, hb1.trans (hb3.mono hb1.size)⟩
  · go_enter Try.func4, Try.ntmps4
    go_wp2_with (first | (go_at_call 8; refine (small_any _).mono ?_; rintro e w1 ⟨rfl, hb1⟩))
    all_goals (go_ret; exact ⟨rfl, by assumption⟩)

end Go.Proofs.Ytcocjdcnmfodcaa.W
