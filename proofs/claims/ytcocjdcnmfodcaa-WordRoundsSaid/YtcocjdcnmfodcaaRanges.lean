/-
  The walk of WordRanges: for every input the law's text returns true. No condition.
-/
import Derived.Test.YtcocjdcnmfodcaaG
import Derived.Test.YtcocjdcnmfodcaaP
namespace Go.Proofs.Ytcocjdcnmfodcaa.W
open Go.RowKit
set_option linter.unusedVariables false
set_option linter.unusedSimpArgs false

theorem get_at {s : ByteArray} {a k m : Int} {sg r : Bool} (hs : s.size ≤ maxLen) (h : getP s a k sg = (m, r)) (w : World) :
    Calls Try.prog 9 #[.string s, .int .i64 a, .int .i64 k, .bool sg] w fun e w' => e = .returned (.tuple #[.int .i64 m, .bool r]) ∧ w = w' := by
  have := get_any s a k sg w hs
  rwa [h] at this

theorem put_at {s t : ByteArray} {a k n : Int} {r : Bool} (hs : s.size ≤ 1000) (h1 : -9223372036854775808 ≤ n) (h2 : n ≤ 9223372036854775807) (hr : putOk s a k n = r) (ht : putS s a k n = t) (w : World) :
    Calls Try.prog 11 #[.string s, .int .i64 a, .int .i64 k, .int .i64 n] w fun e w' => e = .returned (.tuple #[.string t, .bool r]) ∧ Below w.heap.size w w' := by
  have := put_any s a k n w hs h1 h2
  rwa [hr, ht] at this

theorem fits_at {n b : Int} {sg r : Bool} (h1 : -9223372036854775808 ≤ n) (h2 : n ≤ 9223372036854775807) (h : fitsB n b sg = r) (w : World) :
    Calls Try.prog 13 #[.int .i64 n, .int .i64 b, .bool sg] w fun e w' => e = .returned (.bool r) ∧ w = w' := by
  have := fits_any n b sg w h1 h2
  rwa [h] at this

set_option maxHeartbeats 1600000 in
theorem ranges_walk (s : ByteArray) (a k n : Int) (sg : Bool) (hs : s.size ≤ maxLen) (ha : -9223372036854775808 ≤ a ∧ a ≤ 9223372036854775807) (hk : -9223372036854775808 ≤ k ∧ k ≤ 9223372036854775807) (hn : -9223372036854775808 ≤ n ∧ n ≤ 9223372036854775807) (w : World) :
    Calls Try.prog 5 #[.string s, .int .i64 a, .int .i64 k, .int .i64 n, .bool sg] w fun e w' => e = .returned (.bool true) ∧ Below w.heap.size w w' := by
  obtain ⟨h1, h2⟩ := hn
  have hs' := hs
  unfold maxLen at hs
  by_cases hf : fieldB s.size a k = true
  · by_cases hl : s.size ≤ 1000
    · obtain ⟨_, _, p3, p4, p5⟩ := put_back (sg := sg) hf
      have HG := Lib.hid (show getP s a k sg = ((getP s a k sg).1, true) by rw [getP, if_pos hf])
      have hk' := (fieldB_iff.1 hf).1
      have k1 : 1 ≤ k := by omega
      have k2 : k ≤ 8 := by omega
      have hok := show putOk s a k n = (fitsB n (8 * k) false || fitsB n (8 * k) true) by simp [putOk, hf]
      obtain ⟨t, ht⟩ : ∃ t, putS s a k n = t := ⟨_, rfl⟩
      have HT := Lib.hid ht
      clear ht
      generalize (getP s a k sg).1 = m at *
      clear hf hk'
      cases hF0 : fitsB n (8 * k) false <;> cases hF1 : fitsB n (8 * k) true <;> cases sg <;> cases hk8 : (k == 8)
      all_goals
        simp only [hF0, hF1, Bool.or_self, Bool.or_true, Bool.true_or, Bool.or_false, Bool.false_or] at hok
        simp only [hk8, Bool.or_self, Bool.or_true, Bool.true_or, Bool.or_false, Bool.false_or] at p5
        have HP := Lib.hid p5
        have HOK := Lib.hid hok
        have HF0 := Lib.hid hF0
        have HF1 := Lib.hid hF1
        clear hok hF0 hF1 p5
        go_enter Try.func5, Try.ntmps5
        go_wp2_with (first | (go_at_call 8; refine (small_any _).mono ?_; rintro e w1 ⟨rfl, hb1⟩) | (go_at_call 9; refine (get_at hs' HG.out _).mono ?_; rintro e w' ⟨rfl, rfl⟩) | (go_at_call 11; refine (put_at hl h1 h2 HOK.out HT.out _).mono ?_; rintro e w2 ⟨rfl, hb2⟩) | (go_at_call 13; with_reducible refine (fits_at (by omega) (by omega) HF0.out _).mono ?_; rintro e w' ⟨rfl, rfl⟩) | (go_at_call 13; with_reducible refine (fits_at (by omega) (by omega) HF1.out _).mono ?_; rintro e w' ⟨rfl, rfl⟩) | (go_at_call 13; with_reducible refine (fits_at (by omega) (by omega) HP.out _).mono ?_; rintro e w' ⟨rfl, rfl⟩))
        go_ret
        exact ⟨rfl, hb1.trans (hb2.mono hb1.size)⟩
    · have HG := Lib.hid (show getP s a k sg = ((getP s a k sg).1, true) by rw [getP, if_pos hf])
      generalize (getP s a k sg).1 = m at *
      go_enter Try.func5, Try.ntmps5
      go_wp2_with (first | (go_at_call 8; refine (small_any _).mono ?_; rintro e w1 ⟨rfl, hb1⟩) | (go_at_call 9; refine (get_at hs' HG.out _).mono ?_; rintro e w' ⟨rfl, rfl⟩))
      all_goals (go_ret; exact ⟨rfl, by assumption⟩)
  · have HG := Lib.hid (show getP s a k sg = (0, false) by rw [getP, if_neg hf])
    go_enter Try.func5, Try.ntmps5
    go_wp2_with (first | (go_at_call 8; refine (small_any _).mono ?_; rintro e w1 ⟨rfl, hb1⟩) | (go_at_call 9; refine (get_at hs' HG.out _).mono ?_; rintro e w' ⟨rfl, rfl⟩))
    all_goals (go_ret; exact ⟨rfl, by assumption⟩)

end Go.Proofs.Ytcocjdcnmfodcaa.W
