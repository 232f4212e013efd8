/-
  The walks of the reference's low, Value, Width, Fits, Code, Direct.
-/
import Derived.Test.YtmngicdgapkbmaaDoorVal15
import Derived.Test.YtmngicdgapkbmaaDoorHalves
import Derived.Test.YtmngicdgapkbmaaDoorFt
namespace Go.Proofs.YtmngicdgapkbmaaDoor.W
open Go.RowKit
set_option linter.unusedVariables false

theorem rlow_any (n : Int) (w : World) : Calls Tryd.prog 28 #[.int .i64 n] w fun e w' => e = .returned (.int .i64 (IntKind.i32.wrap n)) ∧ w = w' := by
  have hb := i64_and_low n
  have h0 : 0 ≤ n % 4294967296 ∧ n % 4294967296 < 4294967296 := by omega
  have HE : Hd (IntKind.i32.wrap n = if 2147483648 ≤ n % 4294967296 then n % 4294967296 - 4294967296 else n % 4294967296) := ⟨by
    simp only [IntKind.wrap_i32]; split <;> omega⟩
  obtain ⟨m, hm⟩ : ∃ m, n % 4294967296 = m := ⟨_, rfl⟩
  rw [hm] at hb h0 HE
  clear hm
  by_cases h : 2147483648 ≤ m
  · have e : Hd (IntKind.i32.wrap n = m - 4294967296) := ⟨by rw [HE.out, if_pos h]⟩
    clear HE
    go_enter Tryd.func28, Tryd.ntmps28
    go_wp2
    go_ret
    exact ⟨ret_i (by rw [e.out]), rfl⟩
  · have e : Hd (IntKind.i32.wrap n = m) := ⟨by rw [HE.out, if_neg h]⟩
    clear HE
    go_enter Tryd.func28, Tryd.ntmps28
    go_wp2
    go_ret
    exact ⟨ret_i (by rw [e.out]), rfl⟩

theorem isk_cases (k : Int) : k = 0 ∨ k = 1 ∨ k = 2 ∨ k = 3 ∨ k = 4 ∨ k = 5 ∨ k = 6 ∨ k = 7 ∨ k = 8 ∨ k = 9 ∨ k = 10 ∨ k = 11 ∨ k = 12 ∨ isK k = false := by
  rcases h : isK k with _ | _
  · simp
  · obtain ⟨n, rfl, hn⟩ := isK_nat h
    simp only [Bool.true_eq_false, or_false]; omega

theorem notk {k : Int} (h : isK k = false) : (k == 0) = false ∧ (k == 1) = false ∧ (k == 2) = false ∧ (k == 3) = false ∧ (k == 4) = false ∧ (k == 5) = false ∧ (k == 6) = false ∧ (k == 7) = false ∧ (k == 8) = false ∧ (k == 9) = false ∧ (k == 10) = false ∧ (k == 11) = false ∧ (k == 12) = false := by
  have hk : k < 0 ∨ 12 < k := by unfold isK at h; simp at h; omega
  refine ⟨?_, ?_, ?_, ?_, ?_, ?_, ?_, ?_, ?_, ?_, ?_, ?_, ?_⟩ <;> (simp; omega)

set_option maxHeartbeats 1000000 in
theorem rwidth_any (k : Int) (w : World) : Calls Tryd.prog 10 #[.int .i64 k] w fun e w' => e = .returned (.tuple #[.int .i64 (offI k), .int .i64 (sizeI k)]) ∧ w = w' := by
  rcases isk_cases k with rfl | rfl | rfl | rfl | rfl | rfl | rfl | rfl | rfl | rfl | rfl | rfl | rfl | hk
  case inr.inr.inr.inr.inr.inr.inr.inr.inr.inr.inr.inr.inr =>
    have e : Hd (offI k = 0 ∧ sizeI k = 0) := ⟨by unfold offI; rw [hk]; rfl, by unfold sizeI; rw [hk]; rfl⟩
    rw [e.out.1, e.out.2]
    obtain ⟨z0, z1, z2, z3, z4, z5, z6, z7, z8, z9, z10, z11, z12⟩ := notk hk
    clear hk
    go_enter Tryd.func10, Tryd.ntmps10
    go_wp2
    go_ret2
    exact ⟨rfl, rfl⟩
  all_goals (
    go_enter Tryd.func10, Tryd.ntmps10
    go_wp2
    go_ret2
    exact ⟨rfl, rfl⟩)

set_option maxHeartbeats 1000000 in
theorem rcode_any (k : Int) (w : World) : Calls Tryd.prog 16 #[.int .i64 k] w fun e w' => e = .returned (.bool (code15 k)) ∧ w = w' := by
  have HW := Hd.mk (rwidth_any k w)
  have e : Hd ((offI k == 4) = code15 k) := ⟨by
    rcases isk_cases k with rfl | rfl | rfl | rfl | rfl | rfl | rfl | rfl | rfl | rfl | rfl | rfl | rfl | hk
    case inr.inr.inr.inr.inr.inr.inr.inr.inr.inr.inr.inr.inr => unfold offI code15; rw [hk]; rfl
    all_goals rfl⟩
  obtain ⟨o, ho⟩ : ∃ o, offI k = o := ⟨_, rfl⟩
  rw [ho] at HW e
  rw [← e.out]
  clear e ho
  go_enter Tryd.func16, Tryd.ntmps16
  go_wp2_with fail
  refine HW.out.mono ?_; rintro e w1 ⟨rfl, rfl⟩
  go_wp2
  go_ret
  exact ⟨rfl, rfl⟩

theorem rfits_eq (k v : Int) (h3 : k ≠ 3) (h6 : k ≠ 6) : fits15 k v = (decide (sizeI k = 8) || (decide (sizeI k = 4) && (decide (-2147483648 ≤ v) && decide (v ≤ 2147483647)))) := by
  have hf : fitsB v 32 true = (decide (-2147483648 ≤ v) && decide (v ≤ 2147483647)) := by
    rw [Bool.eq_iff_iff]; simp [fitsB]; omega
  unfold fits15
  rw [if_neg h3, if_neg h6, hf]
  rcases isk_cases k with rfl | rfl | rfl | rfl | rfl | rfl | rfl | rfl | rfl | rfl | rfl | rfl | rfl | hk
  case inr.inr.inr.inr.inr.inr.inr.inr.inr.inr.inr.inr.inr => unfold sizeI; rw [hk]; rfl
  all_goals (first | exact absurd rfl h3 | exact absurd rfl h6 | rfl)

set_option maxHeartbeats 2000000 in
theorem rfits15_any (k v : Int) (w : World) : Calls Tryd.prog 14 #[.int .i64 k, .int .i64 v] w fun e w' => e = .returned (.bool (fits15 k v)) ∧ w = w' := by
  have HW := Hd.mk (rwidth_any k w)
  by_cases h3 : k = 3
  · subst h3
    have ho : offI 3 = 0 := by decide
    have hz : sizeI 3 = 2 := by decide
    rw [ho, hz] at HW
    by_cases a : 0 ≤ v
    · by_cases b : v ≤ 65535
      · have e : Hd (fits15 3 v = true) := ⟨by simp [fits15]; omega⟩
        rw [e.out]
        go_enter Tryd.func14, Tryd.ntmps14
        go_wp2_with fail
        refine HW.out.mono ?_; rintro e w1 ⟨rfl, rfl⟩
        go_wp2
        go_ret
        exact ⟨rfl, rfl⟩
      · have e : Hd (fits15 3 v = false) := ⟨by simp [fits15]; omega⟩
        rw [e.out]
        go_enter Tryd.func14, Tryd.ntmps14
        go_wp2_with fail
        refine HW.out.mono ?_; rintro e w1 ⟨rfl, rfl⟩
        go_wp2
        go_ret
        exact ⟨ret_b (by simp; omega), rfl⟩
    · have e : Hd (fits15 3 v = false) := ⟨by simp [fits15]; omega⟩
      rw [e.out]
      go_enter Tryd.func14, Tryd.ntmps14
      go_wp2_with fail
      refine HW.out.mono ?_; rintro e w1 ⟨rfl, rfl⟩
      go_wp2
      go_ret
      exact ⟨rfl, rfl⟩
  · have z3 : (k == 3) = false := by simp [h3]
    by_cases h6 : k = 6
    · subst h6
      have ho : offI 6 = 4 := by decide
      have hz : sizeI 6 = 4 := by decide
      rw [ho, hz] at HW
      clear h3 z3
      by_cases a : v % 8 = 0
      · have a' : (v.tmod 8 == 0) = true := by simp [tmod8, a]
        by_cases b : -512 ≤ v
        · by_cases c : v ≤ 504
          · have e : Hd (fits15 6 v = true) := ⟨by simp [fits15]; omega⟩
            rw [e.out]
            clear a
            go_enter Tryd.func14, Tryd.ntmps14
            go_wp2_with fail
            refine HW.out.mono ?_; rintro e w1 ⟨rfl, rfl⟩
            go_wp2
            go_ret
            exact ⟨ret_b (by first | rfl | (simp; omega)), rfl⟩
          · have e : Hd (fits15 6 v = false) := ⟨by simp [fits15]; omega⟩
            rw [e.out]
            have c1 : decide (v ≤ 504) = false := by simp; omega
            have b1 : decide (-512 ≤ v) = true := by simp; omega
            clear a b c
            go_enter Tryd.func14, Tryd.ntmps14
            go_wp2_with fail
            refine HW.out.mono ?_; rintro e w1 ⟨rfl, rfl⟩
            go_wp2
            go_ret
            exact ⟨ret_b (by first | rfl | (simp; omega)), rfl⟩
        · have e : Hd (fits15 6 v = false) := ⟨by simp [fits15]; omega⟩
          rw [e.out]
          clear a
          go_enter Tryd.func14, Tryd.ntmps14
          go_wp2_with fail
          refine HW.out.mono ?_; rintro e w1 ⟨rfl, rfl⟩
          go_wp2
          go_ret
          exact ⟨ret_b (by first | rfl | (simp; omega)), rfl⟩
      · have a' : (v.tmod 8 == 0) = false := by simp [tmod8, a]
        have e : Hd (fits15 6 v = false) := ⟨by simp [fits15]; omega⟩
        rw [e.out]
        have a'' : (v % 8 == 0) = false := by simp [a]
        clear a
        go_enter Tryd.func14, Tryd.ntmps14
        go_wp2_with fail
        refine HW.out.mono ?_; rintro e w1 ⟨rfl, rfl⟩
        go_wp2
        go_ret
        exact ⟨rfl, rfl⟩
    · have z6 : (k == 6) = false := by simp [h6]
      have e := Hd.mk (rfits_eq k v h3 h6)
      rw [e.out]
      obtain ⟨o, ho⟩ : ∃ o, offI k = o := ⟨_, rfl⟩
      obtain ⟨z, hz⟩ : ∃ z, sizeI k = z := ⟨_, rfl⟩
      rw [ho, hz] at HW
      rw [hz]
      clear e ho hz h3 h6
      by_cases y8 : z = 8
      · subst y8
        go_enter Tryd.func14, Tryd.ntmps14
        go_wp2_with fail
        refine HW.out.mono ?_; rintro e w1 ⟨rfl, rfl⟩
        go_wp2
        go_ret
        exact ⟨rfl, rfl⟩
      · have y8' : (z == 8) = false := by simp [y8]
        by_cases y4 : z = 4
        · subst y4
          clear y8
          by_cases b : -2147483648 ≤ v
          · go_enter Tryd.func14, Tryd.ntmps14
            go_wp2_with fail
            refine HW.out.mono ?_; rintro e w1 ⟨rfl, rfl⟩
            go_wp2
            go_ret
            exact ⟨ret_b (by simp [b]), rfl⟩
          · have b1 : decide (-2147483648 ≤ v) = false := by simp; omega
            rw [b1]
            clear b
            go_enter Tryd.func14, Tryd.ntmps14
            go_wp2_with fail
            refine HW.out.mono ?_; rintro e w1 ⟨rfl, rfl⟩
            go_wp2
            go_ret
            exact ⟨ret_b (by simp), rfl⟩
        · have y4' : (z == 4) = false := by simp [y4]
          have e : Hd ((decide (z = 8) || (decide (z = 4) && (decide (-2147483648 ≤ v) && decide (v ≤ 2147483647)))) = false) := ⟨by simp [y8, y4]⟩
          rw [e.out]
          clear y4 y8
          go_enter Tryd.func14, Tryd.ntmps14
          go_wp2_with fail
          refine HW.out.mono ?_; rintro e w1 ⟨rfl, rfl⟩
          go_wp2
          go_ret
          exact ⟨rfl, rfl⟩

theorem size_zero (k : Int) : (sizeI k == 0) = !isK k := by
  rcases isk_cases k with rfl | rfl | rfl | rfl | rfl | rfl | rfl | rfl | rfl | rfl | rfl | rfl | rfl | hk
  case inr.inr.inr.inr.inr.inr.inr.inr.inr.inr.inr.inr.inr => unfold sizeI; rw [hk]; rfl
  all_goals rfl

set_option maxHeartbeats 2000000 in
theorem rdirect_any (k t : Int) (w : World) : Calls Tryd.prog 18 #[.int .i64 k, .int .i64 t] w fun e w' => e = .returned (.bool (direct15 k t)) ∧ w = w' := by
  have HW := Hd.mk (rwidth_any k w)
  have hz := size_zero k
  obtain ⟨o, ho⟩ : ∃ o, offI k = o := ⟨_, rfl⟩
  obtain ⟨z, hzz⟩ : ∃ z, sizeI k = z := ⟨_, rfl⟩
  rw [ho, hzz] at HW
  rw [hzz] at hz
  clear ho hzz
  rcases isk_cases k with rfl | rfl | rfl | rfl | rfl | rfl | rfl | rfl | rfl | rfl | rfl | rfl | rfl | hk
  case inr.inr.inr.inr.inr.inr.inr.inr.inr.inr.inr.inr.inr =>
    have e := Hd.mk ((fits_none hk 0).2.2.2.2.1 t)
    rw [e.out]
    rw [hk] at hz
    have hz : (z == 0) = true := hz
    clear hk
    go_enter Tryd.func18, Tryd.ntmps18
    go_wp2_with fail
    refine HW.out.mono ?_; rintro e w1 ⟨rfl, rfl⟩
    go_wp2
    go_ret
    exact ⟨rfl, rfl⟩
  all_goals (
    have hz : (z == 0) = false := hz
    rcases (by omega : t = 0 ∨ t = 1 ∨ t = 2 ∨ (t ≠ 0 ∧ t ≠ 1 ∧ t ≠ 2)) with rfl | rfl | rfl | ⟨t0, t1, t2⟩
    case inr.inr.inr =>
      have y0 : (t == 0) = false := by simp [t0]
      have y1 : (t == 1) = false := by simp [t1]
      have y2 : (t == 2) = false := by simp [t2]
      unfold direct15
      rw [if_neg t0, if_neg t1, decide_eq_false t2]
      clear t0 t1 t2
      go_enter Tryd.func18, Tryd.ntmps18
      go_wp2_with fail
      refine HW.out.mono ?_; rintro e w1 ⟨rfl, rfl⟩
      go_wp2
      go_ret
      exact ⟨rfl, rfl⟩
    all_goals (
      go_enter Tryd.func18, Tryd.ntmps18
      go_wp2_with fail
      refine HW.out.mono ?_; rintro e w1 ⟨rfl, rfl⟩
      go_wp2
      go_ret
      exact ⟨rfl, rfl⟩))


set_option maxHeartbeats 2000000 in
theorem rvalue_any (k : Int) (x : Wh) (w : World) (hx : WhOk x) : Calls Tryd.prog 12 #[.int .i64 k, whV x] w fun e w' => e = .returned (.int .i64 (val15 k x)) ∧ Below w.heap.size w w' := by
  unfold whV
  obtain ⟨u, hu⟩ : ∃ u, wrap64 (x.s + x.a) = u := ⟨_, rfl⟩
  have hur : -9223372036854775808 ≤ u ∧ u ≤ 9223372036854775807 := by rw [← hu]; unfold wrap64; omega
  have hsum : Hd (sumW x = u) := ⟨hu⟩
  obtain ⟨d, hd⟩ : ∃ d, wrap64 (u - x.b) = d := ⟨_, rfl⟩
  have hdel : Hd (deltaW x = d) := ⟨by unfold deltaW; rw [hsum.out, hd]⟩
  have HD := Hd.mk hd
  have HDR : Hd (-9223372036854775808 ≤ d ∧ d ≤ 9223372036854775807) := ⟨by rw [← hd]; unfold wrap64; omega⟩
  have hother : k = 0 ∨ k = 1 ∨ k = 2 ∨ k = 3 ∨ k = 4 ∨ k = 5 ∨ k = 6 ∨ k = 7 ∨ k = 8 ∨ k = 9 ∨ k = 10 ∨ k = 11 ∨ k = 12 ∨ (k < 0 ∨ 12 < k) := by omega
  obtain ⟨u1, u2⟩ := hur
  clear hx hd
  rcases hother with rfl | rfl | rfl | rfl | rfl | rfl | rfl | rfl | rfl | rfl | rfl | rfl | rfl | hk
  · have e : Hd (val15 0 x = u) := ⟨hsum.out⟩
    rw [e.out]
    go_enter Tryd.func12, Tryd.ntmps12
    go_wp2
    go_ret
    exact ⟨by first | rfl | exact ret_i hu | exact ret_i (by unfold wrap64; omega), by go_grown⟩
  · have e : Hd (val15 1 x = wrap64 (u - x.p)) := ⟨by rw [← hsum.out]; rfl⟩
    rw [e.out]
    go_enter Tryd.func12, Tryd.ntmps12
    go_wp2
    go_ret
    exact ⟨by first | rfl | exact ret_i hu | exact ret_i (by unfold wrap64; omega), by go_grown⟩
  · have e : Hd (val15 2 x = wrap64 (u - x.p)) := ⟨by rw [← hsum.out]; rfl⟩
    rw [e.out]
    go_enter Tryd.func12, Tryd.ntmps12
    go_wp2
    go_ret
    exact ⟨by first | rfl | exact ret_i hu | exact ret_i (by unfold wrap64; omega), by go_grown⟩
  · have hd := HD.out
    by_cases h8 : d % 8 = 0
    · have e : Hd (val15 3 x = d / 8) := ⟨by show (if deltaW x % 8 = 0 then deltaW x / 8 else -1) = _; rw [hdel.out, if_pos h8]⟩
      rw [e.out]
      have t1 : (d.tmod 8 != 0) = false := by simp [tmod8, h8]
      have t2 := tdiv8 d h8
      clear h8
      go_enter Tryd.func12, Tryd.ntmps12
      go_wp2
      go_ret
      have hdr := HDR.out
      exact ⟨by first | rfl | exact ret_i (by unfold wrap64; omega), by go_grown⟩
    · have e : Hd (val15 3 x = -1) := ⟨by show (if deltaW x % 8 = 0 then deltaW x / 8 else -1) = _; rw [hdel.out, if_neg h8]⟩
      rw [e.out]
      have t1 : (d.tmod 8 != 0) = true := by simp [tmod8, h8]
      clear h8
      go_enter Tryd.func12, Tryd.ntmps12
      go_wp2
      go_ret
      exact ⟨by first | rfl | exact ret_i hu | exact ret_i (by unfold wrap64; omega), by go_grown⟩
  · have e : Hd (val15 4 x = wrap64 (x.z + x.a)) := ⟨rfl⟩
    rw [e.out]
    go_enter Tryd.func12, Tryd.ntmps12
    go_wp2
    go_ret
    exact ⟨by first | rfl | exact ret_i hu | exact ret_i (by unfold wrap64; omega), by go_grown⟩
  · have e : Hd (val15 5 x = wrap64 (u - x.i)) := ⟨by rw [← hsum.out]; rfl⟩
    rw [e.out]
    go_enter Tryd.func12, Tryd.ntmps12
    go_wp2
    go_ret
    exact ⟨by first | rfl | exact ret_i hu | exact ret_i (by unfold wrap64; omega), by go_grown⟩
  · have e : Hd (val15 6 x = wrap64 (u - x.i)) := ⟨by rw [← hsum.out]; rfl⟩
    rw [e.out]
    go_enter Tryd.func12, Tryd.ntmps12
    go_wp2
    go_ret
    exact ⟨by first | rfl | exact ret_i hu | exact ret_i (by unfold wrap64; omega), by go_grown⟩
  · have e : Hd (val15 7 x = wrap64 (x.l - x.i)) := ⟨rfl⟩
    rw [e.out]
    go_enter Tryd.func12, Tryd.ntmps12
    go_wp2
    go_ret
    exact ⟨by first | rfl | exact ret_i hu | exact ret_i (by unfold wrap64; omega), by go_grown⟩
  · have e : Hd (val15 8 x = IntKind.i32.wrap u) := ⟨by rw [← hsum.out]; rfl⟩
    rw [e.out]
    go_enter Tryd.func12, Tryd.ntmps12
    go_wp2_with fail
    refine (rlow_any _ _).mono ?_; rintro e w1 ⟨rfl, rfl⟩
    go_wp2
    go_ret
    exact ⟨by first | rfl | exact ret_i (by rw [hu]), by go_grown⟩
  · have e : Hd (val15 9 x = u / 4294967296) := ⟨by rw [← hsum.out]; rfl⟩
    rw [e.out]
    go_enter Tryd.func12, Tryd.ntmps12
    go_wp2
    go_ret
    exact ⟨by first | rfl | exact ret_i hu | exact ret_i (by unfold wrap64; omega), by go_grown⟩
  · have e : Hd (val15 10 x = u) := ⟨hsum.out⟩
    rw [e.out]
    go_enter Tryd.func12, Tryd.ntmps12
    go_wp2
    go_ret
    exact ⟨by first | rfl | exact ret_i hu | exact ret_i (by unfold wrap64; omega), by go_grown⟩
  · have e : Hd (val15 11 x = x.s) := ⟨rfl⟩
    rw [e.out]
    go_enter Tryd.func12, Tryd.ntmps12
    go_wp2
    go_ret
    exact ⟨by first | rfl | exact ret_i hu | exact ret_i (by unfold wrap64; omega), by go_grown⟩
  · have e : Hd (val15 12 x = u) := ⟨hsum.out⟩
    rw [e.out]
    go_enter Tryd.func12, Tryd.ntmps12
    go_wp2
    go_ret
    exact ⟨by first | rfl | exact ret_i hu | exact ret_i (by unfold wrap64; omega), by go_grown⟩
  · have e : Hd (val15 k x = 0) := ⟨by unfold val15; repeat rw [if_neg (by omega)]⟩
    rw [e.out]
    have z0 : (k == 0) = false := by simp; omega
    have z1 : (k == 1) = false := by simp; omega
    have z2 : (k == 2) = false := by simp; omega
    have z3 : (k == 3) = false := by simp; omega
    have z4 : (k == 4) = false := by simp; omega
    have z5 : (k == 5) = false := by simp; omega
    have z6 : (k == 6) = false := by simp; omega
    have z7 : (k == 7) = false := by simp; omega
    have z8 : (k == 8) = false := by simp; omega
    have z9 : (k == 9) = false := by simp; omega
    have z10 : (k == 10) = false := by simp; omega
    have z11 : (k == 11) = false := by simp; omega
    have z12 : (k == 12) = false := by simp; omega
    clear hk
    go_enter Tryd.func12, Tryd.ntmps12
    go_wp2
    go_ret
    exact ⟨by first | rfl | exact ret_i hu | exact ret_i (by unfold wrap64; omega), by go_grown⟩


end Go.Proofs.YtmngicdgapkbmaaDoor.W
