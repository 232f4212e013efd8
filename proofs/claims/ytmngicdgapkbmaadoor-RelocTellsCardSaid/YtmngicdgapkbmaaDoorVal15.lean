/-
  The walks of reloc's Value and Direct.
-/
import Derived.Test.YtmngicdgapkbmaaDoorEasy15
namespace Go.Proofs.YtmngicdgapkbmaaDoor.W
open Go.RowKit
set_option linter.unusedVariables false

/-- the circumstances of a relocation -/
structure Wh where
  s : Int
  a : Int
  p : Int
  i : Int
  b : Int
  z : Int
  l : Int
structure WhOk (x : Wh) : Prop where
  s : i64R x.s
  a : i64R x.a
  p : i64R x.p
  i : i64R x.i
  b : i64R x.b
  z : i64R x.z
  l : i64R x.l
def whV (x : Wh) : Value := .agg #[.int .i64 x.s, .int .i64 x.a, .int .i64 x.p, .int .i64 x.i, .int .i64 x.b, .int .i64 x.z, .int .i64 x.l]

def sumW (x : Wh) : Int := wrap64 (x.s + x.a)
def deltaW (x : Wh) : Int := wrap64 (sumW x - x.b)
def val15 (k : Int) (x : Wh) : Int :=
  if k = 0 ∨ k = 10 ∨ k = 12 then sumW x else if k = 1 ∨ k = 2 then wrap64 (sumW x - x.p) else if k = 3 then (if deltaW x % 8 = 0 then deltaW x / 8 else -1)
  else if k = 4 then wrap64 (x.z + x.a) else if k = 5 ∨ k = 6 then wrap64 (sumW x - x.i) else if k = 7 then wrap64 (x.l - x.i)
  else if k = 8 then IntKind.i32.wrap (sumW x) else if k = 9 then sumW x / 4294967296 else if k = 11 then x.s else 0

theorem tdiv8 (d : Int) (h : d % 8 = 0) : d.tdiv 8 = d / 8 := by
  obtain ⟨c, hc⟩ := Int.dvd_iff_emod_eq_zero.2 h
  subst hc
  rw [Int.mul_tdiv_cancel_left _ (by decide), Int.mul_ediv_cancel_left _ (by decide)]

set_option maxHeartbeats 1000000 in
theorem value_any (k : Int) (x : Wh) (w : World) (hx : WhOk x) : Calls Tryd.prog 11 #[.int .i64 k, whV x] w fun e w' => e = .returned (.int .i64 (val15 k x)) ∧ Below w.heap.size w w' := by
  unfold whV
  obtain ⟨u, hu⟩ : ∃ u, wrap64 (x.s + x.a) = u := ⟨_, rfl⟩
  have hur : -9223372036854775808 ≤ u ∧ u ≤ 9223372036854775807 := by rw [← hu]; unfold wrap64; omega
  have hsum : Hd (sumW x = u) := ⟨hu⟩
  obtain ⟨d, hd⟩ : ∃ d, wrap64 (u - x.b) = d := ⟨_, rfl⟩
  have hdel : Hd (deltaW x = d) := ⟨by unfold deltaW; rw [hsum.out, hd]⟩
  have HD := Hd.mk hd
  have HDR : Hd (-9223372036854775808 ≤ d ∧ d ≤ 9223372036854775807) := ⟨by rw [← hd]; unfold wrap64; omega⟩
  have hother : k = 0 ∨ k = 1 ∨ k = 2 ∨ k = 3 ∨ k = 4 ∨ k = 5 ∨ k = 6 ∨ k = 7 ∨ k = 8 ∨ k = 9 ∨ k = 10 ∨ k = 11 ∨ k = 12 ∨ (k < 0 ∨ 12 < k) := by omega
  obtain ⟨u1, u2⟩ := hur
  clear hx hd
  rcases hother with rfl | rfl | rfl | rfl | rfl | rfl | rfl | rfl | rfl | rfl | rfl | rfl | rfl | hk
  · have e : Hd (val15 0 x = u) := ⟨hsum.out⟩
    rw [e.out]
    go_enter Tryd.func11, Tryd.ntmps11
    go_wp2
    go_ret
    exact ⟨by first | rfl | exact ret_i hu | exact ret_i (by unfold wrap64; omega), by go_grown⟩
  · have e : Hd (val15 1 x = wrap64 (u - x.p)) := ⟨by rw [← hsum.out]; rfl⟩
    rw [e.out]
    go_enter Tryd.func11, Tryd.ntmps11
    go_wp2
    go_ret
    exact ⟨by first | rfl | exact ret_i hu | exact ret_i (by unfold wrap64; omega), by go_grown⟩
  · have e : Hd (val15 2 x = wrap64 (u - x.p)) := ⟨by rw [← hsum.out]; rfl⟩
    rw [e.out]
    go_enter Tryd.func11, Tryd.ntmps11
    go_wp2
    go_ret
    exact ⟨by first | rfl | exact ret_i hu | exact ret_i (by unfold wrap64; omega), by go_grown⟩
  · have hd := HD.out
    by_cases h8 : d % 8 = 0
    · have e : Hd (val15 3 x = d / 8) := ⟨by show (if deltaW x % 8 = 0 then deltaW x / 8 else -1) = _; rw [hdel.out, if_pos h8]⟩
      rw [e.out]
      have t1 : (d.tmod 8 != 0) = false := by simp [tmod8, h8]
      have t2 := tdiv8 d h8
      clear h8
      go_enter Tryd.func11, Tryd.ntmps11
      go_wp2
      go_ret
      have hdr := HDR.out
      exact ⟨by first | rfl | exact ret_i (by unfold wrap64; omega), by go_grown⟩
    · have e : Hd (val15 3 x = -1) := ⟨by show (if deltaW x % 8 = 0 then deltaW x / 8 else -1) = _; rw [hdel.out, if_neg h8]⟩
      rw [e.out]
      have t1 : (d.tmod 8 != 0) = true := by simp [tmod8, h8]
      clear h8
      go_enter Tryd.func11, Tryd.ntmps11
      go_wp2
      go_ret
      exact ⟨by first | rfl | exact ret_i hu | exact ret_i (by unfold wrap64; omega), by go_grown⟩
  · have e : Hd (val15 4 x = wrap64 (x.z + x.a)) := ⟨rfl⟩
    rw [e.out]
    go_enter Tryd.func11, Tryd.ntmps11
    go_wp2
    go_ret
    exact ⟨by first | rfl | exact ret_i hu | exact ret_i (by unfold wrap64; omega), by go_grown⟩
  · have e : Hd (val15 5 x = wrap64 (u - x.i)) := ⟨by rw [← hsum.out]; rfl⟩
    rw [e.out]
    go_enter Tryd.func11, Tryd.ntmps11
    go_wp2
    go_ret
    exact ⟨by first | rfl | exact ret_i hu | exact ret_i (by unfold wrap64; omega), by go_grown⟩
  · have e : Hd (val15 6 x = wrap64 (u - x.i)) := ⟨by rw [← hsum.out]; rfl⟩
    rw [e.out]
    go_enter Tryd.func11, Tryd.ntmps11
    go_wp2
    go_ret
    exact ⟨by first | rfl | exact ret_i hu | exact ret_i (by unfold wrap64; omega), by go_grown⟩
  · have e : Hd (val15 7 x = wrap64 (x.l - x.i)) := ⟨rfl⟩
    rw [e.out]
    go_enter Tryd.func11, Tryd.ntmps11
    go_wp2
    go_ret
    exact ⟨by first | rfl | exact ret_i hu | exact ret_i (by unfold wrap64; omega), by go_grown⟩
  · have e : Hd (val15 8 x = IntKind.i32.wrap u) := ⟨by rw [← hsum.out]; rfl⟩
    rw [e.out]
    go_enter Tryd.func11, Tryd.ntmps11
    go_wp2
    go_ret
    exact ⟨ret_i (by first | rfl | (simp only [IntKind.wrap_i32]; unfold wrap64 wrap32; omega) | (unfold wrap64 wrap32 IntKind.wrap; simp; omega)), by go_grown⟩
  · have e : Hd (val15 9 x = u / 4294967296) := ⟨by rw [← hsum.out]; rfl⟩
    rw [e.out]
    go_enter Tryd.func11, Tryd.ntmps11
    go_wp2
    go_ret
    exact ⟨by first | rfl | exact ret_i hu | exact ret_i (by unfold wrap64; omega), by go_grown⟩
  · have e : Hd (val15 10 x = u) := ⟨hsum.out⟩
    rw [e.out]
    go_enter Tryd.func11, Tryd.ntmps11
    go_wp2
    go_ret
    exact ⟨by first | rfl | exact ret_i hu | exact ret_i (by unfold wrap64; omega), by go_grown⟩
  · have e : Hd (val15 11 x = x.s) := ⟨rfl⟩
    rw [e.out]
    go_enter Tryd.func11, Tryd.ntmps11
    go_wp2
    go_ret
    exact ⟨by first | rfl | exact ret_i hu | exact ret_i (by unfold wrap64; omega), by go_grown⟩
  · have e : Hd (val15 12 x = u) := ⟨hsum.out⟩
    rw [e.out]
    go_enter Tryd.func11, Tryd.ntmps11
    go_wp2
    go_ret
    exact ⟨by first | rfl | exact ret_i hu | exact ret_i (by unfold wrap64; omega), by go_grown⟩
  · have e : Hd (val15 k x = 0) := ⟨by unfold val15; repeat rw [if_neg (by omega)]⟩
    rw [e.out]
    have z0 : (k == 0) = false := by simp; omega
    have z1 : (k == 1) = false := by simp; omega
    have z2 : (k == 2) = false := by simp; omega
    have z3 : (k == 3) = false := by simp; omega
    have z4 : (k == 4) = false := by simp; omega
    have z5 : (k == 5) = false := by simp; omega
    have z6 : (k == 6) = false := by simp; omega
    have z7 : (k == 7) = false := by simp; omega
    have z8 : (k == 8) = false := by simp; omega
    have z9 : (k == 9) = false := by simp; omega
    have z10 : (k == 10) = false := by simp; omega
    have z11 : (k == 11) = false := by simp; omega
    have z12 : (k == 12) = false := by simp; omega
    clear hk
    go_enter Tryd.func11, Tryd.ntmps11
    go_wp2
    go_ret
    exact ⟨by first | rfl | exact ret_i hu | exact ret_i (by unfold wrap64; omega), by go_grown⟩

/-- is a relocation of a kind Direct for a target -/
def direct15 (k t : Int) : Bool :=
  if t = 0 then isK k && !(decide (k = 0) || decide (k = 8) || decide (k = 9) || decide (k = 11)) else if t = 1 then decide (k = 6) || decide (k = 7) else isK k && decide (t = 2)

theorem direct_any (k t : Int) (w : World) : Calls Tryd.prog 17 #[.int .i64 k, .int .i64 t] w fun e w' => e = .returned (.bool (direct15 k t)) ∧ w = w' := by
  have HI := Hd.mk (is15_any k w)
  obtain ⟨q, hq⟩ : ∃ q, isK k = q := ⟨_, rfl⟩
  by_cases h0 : t = 0
  · subst h0
    have e : Hd (direct15 k 0 = (q && !(decide (k = 0) || decide (k = 8) || decide (k = 9) || decide (k = 11)))) := ⟨by rw [← hq]; rfl⟩
    rw [e.out]
    rw [hq] at HI
    clear hq
    rcases q with _ | _
    · go_enter Tryd.func17, Tryd.ntmps17
      go_wp2_with fail
      refine HI.out.mono ?_; rintro e w1 ⟨rfl, rfl⟩
      go_wp2
      go_ret
      exact ⟨rfl, rfl⟩
    · by_cases a : k = 0
      · subst a
        go_enter Tryd.func17, Tryd.ntmps17
        go_wp2_with fail
        refine HI.out.mono ?_; rintro e w1 ⟨rfl, rfl⟩
        go_wp2
        go_ret
        exact ⟨rfl, rfl⟩
      have z0 : (k != 0) = true := by simp [a]
      by_cases b : k = 8
      · subst b
        go_enter Tryd.func17, Tryd.ntmps17
        go_wp2_with fail
        refine HI.out.mono ?_; rintro e w1 ⟨rfl, rfl⟩
        go_wp2
        go_ret
        exact ⟨rfl, rfl⟩
      have z8 : (k != 8) = true := by simp [b]
      by_cases c : k = 9
      · subst c
        go_enter Tryd.func17, Tryd.ntmps17
        go_wp2_with fail
        refine HI.out.mono ?_; rintro e w1 ⟨rfl, rfl⟩
        go_wp2
        go_ret
        exact ⟨rfl, rfl⟩
      have z9 : (k != 9) = true := by simp [c]
      by_cases d : k = 11
      · subst d
        go_enter Tryd.func17, Tryd.ntmps17
        go_wp2_with fail
        refine HI.out.mono ?_; rintro e w1 ⟨rfl, rfl⟩
        go_wp2
        go_ret
        exact ⟨rfl, rfl⟩
      have z11 : (k != 11) = true := by simp [d]
      have e2 : Hd ((true && !(decide (k = 0) || decide (k = 8) || decide (k = 9) || decide (k = 11))) = true) := ⟨by simp [a, b, c, d]⟩
      rw [e2.out]
      clear a b c d
      go_enter Tryd.func17, Tryd.ntmps17
      go_wp2_with fail
      refine HI.out.mono ?_; rintro e w1 ⟨rfl, rfl⟩
      go_wp2
      go_ret
      exact ⟨rfl, rfl⟩
  · have z0 : (t == 0) = false := by simp [h0]
    by_cases h1 : t = 1
    · subst h1
      have e : Hd (direct15 k 1 = (decide (k = 6) || decide (k = 7))) := ⟨rfl⟩
      rw [e.out]
      clear HI hq
      by_cases a : k = 6
      · subst a
        go_enter Tryd.func17, Tryd.ntmps17
        go_wp2
        go_ret
        exact ⟨rfl, rfl⟩
      have z6 : (k == 6) = false := by simp [a]
      by_cases b : k = 7
      · subst b
        go_enter Tryd.func17, Tryd.ntmps17
        go_wp2
        go_ret
        exact ⟨rfl, rfl⟩
      have z7 : (k == 7) = false := by simp [b]
      have e2 : Hd ((decide (k = 6) || decide (k = 7)) = false) := ⟨by simp [a, b]⟩
      rw [e2.out]
      clear a b
      go_enter Tryd.func17, Tryd.ntmps17
      go_wp2
      go_ret
      exact ⟨rfl, rfl⟩
    · have z1 : (t == 1) = false := by simp [h1]
      have e : Hd (direct15 k t = (q && decide (t = 2))) := ⟨by unfold direct15; rw [if_neg h0, if_neg h1, hq]⟩
      rw [e.out]
      rw [hq] at HI
      clear hq h0 h1
      rcases q with _ | _
      · go_enter Tryd.func17, Tryd.ntmps17
        go_wp2_with fail
        refine HI.out.mono ?_; rintro e w1 ⟨rfl, rfl⟩
        go_wp2
        go_ret
        exact ⟨rfl, rfl⟩
      · by_cases h2 : t = 2
        · subst h2
          go_enter Tryd.func17, Tryd.ntmps17
          go_wp2_with fail
          refine HI.out.mono ?_; rintro e w1 ⟨rfl, rfl⟩
          go_wp2
          go_ret
          exact ⟨rfl, rfl⟩
        · have z2 : (t == 2) = false := by simp [h2]
          have e2 : Hd ((true && decide (t = 2)) = false) := ⟨by simp [h2]⟩
          rw [e2.out]
          clear h2
          go_enter Tryd.func17, Tryd.ntmps17
          go_wp2_with fail
          refine HI.out.mono ?_; rintro e w1 ⟨rfl, rfl⟩
          go_wp2
          go_ret
          exact ⟨rfl, rfl⟩

end Go.Proofs.YtmngicdgapkbmaaDoor.W
