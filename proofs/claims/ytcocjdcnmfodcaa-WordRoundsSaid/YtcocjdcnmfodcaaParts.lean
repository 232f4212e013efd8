/-
  The walks of WordParts and WordRounds: for every input the law's text returns true. No condition.
-/
import Derived.Test.YtcocjdcnmfodcaaRanges
namespace Go.Proofs.Ytcocjdcnmfodcaa.W
open Go.RowKit
set_option linter.unusedVariables false
set_option linter.unusedSimpArgs false

theorem getP_no8 {s : ByteArray} {a : Int} (h : ¬ (0 ≤ a ∧ a ≤ s.size - 8)) : getP s a 8 true = (0, false) := by
  rw [getP, if_neg (by rw [fieldB_iff]; intro h'; exact h h'.2)]

theorem getP_yes {s : ByteArray} {a k : Nat} {sg : Bool} (hk : k = 1 ∨ k = 2 ∨ k = 4 ∨ k = 8) (h : a + k ≤ s.size) : getP s a k sg = (getI (le (cut s a k)) k sg, true) := by
  rw [getP, if_pos (fieldB_iff.2 ⟨by omega, by omega, by omega⟩)]
  simp

theorem up_at {n t u : Int} (h1 : -9223372036854775808 ≤ n) (h2 : n ≤ 9223372036854775807) (h : upI n t = u) (w : World) :
    Calls Try.prog 15 #[.int .i64 n, .int .i64 t] w fun e w' => e = .returned (.int .i64 u) ∧ w = w' := by
  have := up_any n t w h1 h2
  rwa [h] at this

theorem down_at {n t u : Int} (h : downI n t = u) (w : World) :
    Calls Try.prog 17 #[.int .i64 n, .int .i64 t] w fun e w' => e = .returned (.int .i64 u) ∧ w = w' := by
  have := down_any n t w
  rwa [h] at this

set_option maxHeartbeats 1600000 in
theorem parts_walk (s : ByteArray) (a : Int) (hs : s.size ≤ maxLen) (ha : -9223372036854775808 ≤ a ∧ a ≤ 9223372036854775807) (w : World) :
    Calls Try.prog 6 #[.string s, .int .i64 a] w fun e w' => e = .returned (.bool true) ∧ Below w.heap.size w w' := by
  have hs' := hs
  unfold maxLen at hs
  by_cases hf : 0 ≤ a ∧ a ≤ s.size - 8
  · obtain ⟨k2, k3⟩ := hf
    obtain ⟨a, rfl⟩ := Int.eq_ofNat_of_zero_le k2
    have hl4 := le_lt (cut s a 4)
    have hl4' := le_lt (cut s (a + 4) 4)
    have hl2 := le_lt (cut s a 2)
    have hl2' := le_lt (cut s (a + 2) 2)
    have hl1 := le_lt (cut s a 1)
    have hl1' := le_lt (cut s (a + 1) 1)
    have e8 := cut_add s a 4 4
    have e4 := cut_add s a 2 2
    have e2 := cut_add s a 1 1
    have l8 : le (cut s a 8) = le (cut s a 4) + 4294967296 * le (cut s (a + 4) 4) := by rw [show (8 : Nat) = 4 + 4 from rfl, e8, le_append, cut_length s a 4 (by omega)]
    have l4 : le (cut s a 4) = le (cut s a 2) + 65536 * le (cut s (a + 2) 2) := by rw [show (4 : Nat) = 2 + 2 from rfl, e4, le_append, cut_length s a 2 (by omega)]
    have l2 : le (cut s a 2) = le (cut s a 1) + 256 * le (cut s (a + 1) 1) := by rw [show (2 : Nat) = 1 + 1 from rfl, e2, le_append, cut_length s a 1 (by omega)]
    rw [cut_length s _ _ (by omega)] at hl4 hl4' hl2 hl2' hl1 hl1'
    have g8 : getP s (a : Int) (8 : Int) true = (getI (le (cut s a 8)) 8 true, true) := getP_yes (s := s) (a := a) (k := 8) (sg := true) (by decide) (by omega)
    have g4 : getP s (a : Int) (4 : Int) false = (getI (le (cut s a 4)) 4 false, true) := getP_yes (s := s) (a := a) (k := 4) (sg := false) (by decide) (by omega)
    have g4' : getP s ((a : Int) + 4) (4 : Int) true = (getI (le (cut s (a + 4) 4)) 4 true, true) := getP_yes (s := s) (a := a + 4) (k := 4) (sg := true) (by decide) (by omega)
    have g2 : getP s (a : Int) (2 : Int) false = (getI (le (cut s a 2)) 2 false, true) := getP_yes (s := s) (a := a) (k := 2) (sg := false) (by decide) (by omega)
    have g2' : getP s ((a : Int) + 2) (2 : Int) false = (getI (le (cut s (a + 2) 2)) 2 false, true) := getP_yes (s := s) (a := a + 2) (k := 2) (sg := false) (by decide) (by omega)
    have g1 : getP s (a : Int) (1 : Int) false = (getI (le (cut s a 1)) 1 false, true) := getP_yes (s := s) (a := a) (k := 1) (sg := false) (by decide) (by omega)
    have g1' : getP s ((a : Int) + 1) (1 : Int) false = (getI (le (cut s (a + 1) 1)) 1 false, true) := getP_yes (s := s) (a := a + 1) (k := 1) (sg := false) (by decide) (by omega)
    generalize le (cut s a 8) = v8 at *
    generalize le (cut s a 4) = v4 at *
    generalize le (cut s (a + 4) 4) = v4' at *
    generalize le (cut s a 2) = v2 at *
    generalize le (cut s (a + 2) 2) = v2' at *
    generalize le (cut s a 1) = v1 at *
    generalize le (cut s (a + 1) 1) = v1' at *
    have f8 : getI v8 8 true = getI v4' 4 true * 4294967296 + v4 := by simp [getI]; split <;> split <;> omega
    have b4 : -2147483648 ≤ getI v4' 4 true ∧ getI v4' 4 true ≤ 2147483647 := by simp [getI]; split <;> omega
    have f4 : getI v4 4 false = v4 := by simp [getI]
    have f2 : getI v2 2 false = v2 := by simp [getI]
    have f2' : getI v2' 2 false = v2' := by simp [getI]
    have f1 : getI v1 1 false = v1 := by simp [getI]
    have f1' : getI v1' 1 false = v1' := by simp [getI]
    rw [f8] at g8
    rw [f4] at g4
    rw [f2] at g2
    rw [f2'] at g2'
    rw [f1] at g1
    rw [f1'] at g1'
    generalize getI v4' 4 true = m at *
    have H8 := Lib.hid g8
    have H4 := Lib.hid g4
    have H4' := Lib.hid g4'
    have H2 := Lib.hid g2
    have H2' := Lib.hid g2'
    have H1 := Lib.hid g1
    have H1' := Lib.hid g1'
    have t4 : ((v4 : Int) == (v2' : Int) * 65536 + (v2 : Int)) = true := beq_iff_eq.2 (by omega)
    have t2 : ((v2 : Int) == (v1' : Int) * 256 + (v1 : Int)) = true := beq_iff_eq.2 (by omega)
    have B4 : v4 ≤ 4294967295 := by omega
    have B2 : v2 ≤ 65535 := by omega
    have B2' : v2' ≤ 65535 := by omega
    have B1 : v1 ≤ 255 := by omega
    have B1' : v1' ≤ 255 := by omega
    clear e8 e4 e2 l8 l4 l2 g8 g4 g4' g2 g2' g1 g1' f8 f4 f2 f2' f1 f1' hl4 hl4' hl2 hl2' hl1 hl1'
    go_enter Try.func6, Try.ntmps6
    go_wp2_with (first | (go_at_call 8; refine (small_any _).mono ?_; rintro e w1 ⟨rfl, hb1⟩) | (go_at_call 9; ((with_reducible refine (get_at hs' H8.out _).mono ?_); rintro e w' ⟨rfl, rfl⟩)) | (go_at_call 9; ((with_reducible refine (get_at hs' H4.out _).mono ?_); rintro e w' ⟨rfl, rfl⟩)) | (go_at_call 9; ((with_reducible refine (get_at hs' H4'.out _).mono ?_); rintro e w' ⟨rfl, rfl⟩)) | (go_at_call 9; ((with_reducible refine (get_at hs' H2.out _).mono ?_); rintro e w' ⟨rfl, rfl⟩)) | (go_at_call 9; ((with_reducible refine (get_at hs' H2'.out _).mono ?_); rintro e w' ⟨rfl, rfl⟩)) | (go_at_call 9; ((with_reducible refine (get_at hs' H1.out _).mono ?_); rintro e w' ⟨rfl, rfl⟩)) | (go_at_call 9; ((with_reducible refine (get_at hs' H1'.out _).mono ?_); rintro e w' ⟨rfl, rfl⟩)))
    all_goals (go_ret; exact ⟨rfl, hb1⟩)
  · have HG := Lib.hid (getP_no8 hf)
    clear hf
    by_cases hl : s.size ≤ 1000
    all_goals
      go_enter Try.func6, Try.ntmps6
      go_wp2_with (first | (go_at_call 8; refine (small_any _).mono ?_; rintro e w1 ⟨rfl, hb1⟩) | (go_at_call 9; refine (get_at hs' HG.out _).mono ?_; rintro e w' ⟨rfl, rfl⟩))
      go_ret
      exact ⟨rfl, by assumption⟩

theorem down_facts (n t : Int) (h1 : 1 ≤ t) (h2 : t ≤ 1099511627776) (h3 : -1152921504606846976 ≤ n) (h4 : n ≤ 1152921504606846976) :
    downI n t = n - n % t ∧ (downI n t).tmod t = 0 ∧ 0 ≤ n % t ∧ n % t < t := by
  have a := tm n t h1
  have e : downI n t = n - n % t := by rw [downI, if_pos (okTo_iff.2 ⟨h1, h2, h3, h4⟩)]
  have d : (n - n % t) % t = 0 := by rw [Int.sub_emod, Int.emod_emod, Int.sub_self, Int.zero_emod]
  have b := tm (n - n % t) t h1
  refine ⟨e, ?_, a.2.2.2.1, a.2.2.2.2.1⟩
  rw [e]
  by_cases h0 : 0 ≤ n - n % t <;> omega

theorem up_facts (n t : Int) (h1 : 1 ≤ t) (h2 : t ≤ 1099511627776) (h3 : -1152921504606846976 ≤ n) (h4 : n ≤ 1152921504606846976) :
    (upI n t).tmod t = 0 ∧ n ≤ upI n t ∧ upI n t < n + t ∧ upI n t % t = 0 := by
  have a := tm n t h1
  have e := up_eq n t ⟨h1, h2, h3, h4⟩
  have d : upI n t % t = 0 := by
    rw [e]
    split
    · assumption
    · rw [Int.add_emod_right, Int.sub_emod, Int.emod_emod, Int.sub_self, Int.zero_emod]
  have b := tm (upI n t) t h1
  refine ⟨?_, ?_, ?_, d⟩
  · by_cases h0 : 0 ≤ upI n t <;> omega
  · rw [e]; split <;> omega
  · rw [e]; split <;> omega

set_option maxHeartbeats 1600000 in
theorem rounds_walk (n t : Int) (hn : -9223372036854775808 ≤ n ∧ n ≤ 9223372036854775807) (ht : -9223372036854775808 ≤ t ∧ t ≤ 9223372036854775807) (w : World) :
    Calls Try.prog 7 #[.int .i64 n, .int .i64 t] w fun e w' => e = .returned (.bool true) ∧ Below w.heap.size w w' := by
  obtain ⟨n1, n2⟩ := hn
  by_cases h : 1 ≤ t ∧ t ≤ 1099511627776 ∧ -1152921504606846976 ≤ n ∧ n ≤ 1152921504606846976
  · obtain ⟨h1, h2, h3, h4⟩ := h
    obtain ⟨d1, d2, d3, d4⟩ := down_facts n t h1 h2 h3 h4
    obtain ⟨u1, u2, u3, u4⟩ := up_facts n t h1 h2 h3 h4
    -- rounding again: the lower one up, the upper one down (each lies at most t off n: its own range does not matter where the rest is 0)
    have r1 : upI (downI n t) t = downI n t := by
      by_cases hr : -1152921504606846976 ≤ downI n t
      · rw [up_eq _ t ⟨h1, h2, hr, by omega⟩, if_pos]
        rw [d1, Int.sub_emod, Int.emod_emod, Int.sub_self, Int.zero_emod]
      · exact up_off (by omega)
    have r2 : downI (upI n t) t = upI n t := by
      by_cases hr : upI n t ≤ 1152921504606846976
      · rw [downI, if_pos (okTo_iff.2 ⟨h1, h2, by omega, hr⟩), u4]; omega
      · rw [downI, if_neg (by rw [okTo_iff]; omega)]
    have D := Lib.hid (rfl : downI n t = downI n t)
    have hd : ∃ d, downI n t = d := ⟨_, rfl⟩
    have hu : ∃ u, upI n t = u := ⟨_, rfl⟩
    obtain ⟨d, hd⟩ := hd
    obtain ⟨u, hu⟩ := hu
    rw [hd] at d1 d2 r1
    rw [hu] at u1 u2 u3 r2
    clear D u4
    have HD := Lib.hid hd
    have HU := Lib.hid hu
    have HR1 := Lib.hid r1
    have HR2 := Lib.hid r2
    have bd1 : d ≤ n := by omega
    have bd2 : n - t < d := by omega
    have e1 : (u.tmod t != 0) = false := by rw [u1]; rfl
    have e2 : (d.tmod t != 0) = false := by rw [d2]; rfl
    clear hd hu r1 r2 d1 u1 d2 d3 d4
    go_enter Try.func7, Try.ntmps7
    go_wp2_with (first | (go_at_call 8; refine (small_any _).mono ?_; rintro e w1 ⟨rfl, hb1⟩) | (go_at_call 15; ((with_reducible refine (up_at (by omega) (by omega) HU.out _).mono ?_); rintro e w' ⟨rfl, rfl⟩)) | (go_at_call 15; ((with_reducible refine (up_at (by omega) (by omega) HR1.out _).mono ?_); rintro e w' ⟨rfl, rfl⟩)) | (go_at_call 17; ((with_reducible refine (down_at HD.out _).mono ?_); rintro e w' ⟨rfl, rfl⟩)) | (go_at_call 17; ((with_reducible refine (down_at HR2.out _).mono ?_); rintro e w' ⟨rfl, rfl⟩)))
    all_goals (go_ret; exact ⟨rfl, by assumption⟩)
  · have HU := Lib.hid (up_off h)
    have HD := Lib.hid (show downI n t = n by rw [downI, if_neg (by rw [okTo_iff]; exact h)])
    go_enter Try.func7, Try.ntmps7
    go_wp2_with (first | (go_at_call 8; refine (small_any _).mono ?_; rintro e w1 ⟨rfl, hb1⟩) | (go_at_call 15; ((with_reducible refine (up_at (by omega) (by omega) HU.out _).mono ?_); rintro e w' ⟨rfl, rfl⟩)) | (go_at_call 17; ((with_reducible refine (down_at HD.out _).mono ?_); rintro e w' ⟨rfl, rfl⟩)))
    all_goals (go_ret; exact ⟨rfl, by assumption⟩)

end Go.Proofs.Ytcocjdcnmfodcaa.W
