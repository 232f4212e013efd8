/-
  RelocHalves: the walk.
-/
import Derived.Test.YtmngicdgapkbmaaDoorHf
import Derived.Test.YtmngicdgapkbmaaDoorMoves
namespace Go.Proofs.YtmngicdgapkbmaaDoor.W
open Go.RowKit Go.ChangeShapes Go.WideShapes
set_option linter.unusedVariables false

theorem i64_and_low (x : Int) : bits .and .i64 x 4294967295 = x % 4294967296 := by
  show IntKind.i64.wrap ((BitVec.ofInt 64 x &&& BitVec.ofInt 64 4294967295).toNat : Int) = _
  have e : (BitVec.ofInt 64 x &&& BitVec.ofInt 64 4294967295).toNat = (BitVec.ofInt 64 x).toNat % 4294967296 := by
    rw [BitVec.toNat_and, show (BitVec.ofInt 64 4294967295).toNat = 2 ^ 32 - 1 from rfl, Nat.and_two_pow_sub_one_eq_mod]
  have e2 : ((BitVec.ofInt 64 x).toNat : Int) = x % 18446744073709551616 := by
    rw [BitVec.toNat_ofInt]; omega
  rw [e]
  have : ((((BitVec.ofInt 64 x).toNat % 4294967296 : Nat)) : Int) = x % 4294967296 := by omega
  rw [this]
  exact IntWalk.i64_in _ (by omega)

set_option maxHeartbeats 2000000 in
set_option maxRecDepth 100000 in
theorem halves_any (W : World) (v : Value) (x : Wh) (hv : ArgWh W v x) (hT : Tabs W) :
    Calls Tryd.prog 6 #[v] W fun e w' => e = .returned (.bool true) ∧ Below W.heap.size W w' := by
  obtain rfl := hv.is
  have HOK := Hd.mk hv.ok
  obtain ⟨k1, k2, k3, k4, k5, k6, k7⟩ := halves_ok x hv.ok
  obtain ⟨lo, hlo⟩ : ∃ q, val15 8 x = q := ⟨_, rfl⟩
  obtain ⟨hi, hhi⟩ : ∃ q, val15 9 x = q := ⟨_, rfl⟩
  obtain ⟨u, hu⟩ : ∃ q, sumW x = q := ⟨_, rfl⟩
  have V8 := fun w => Hd.mk (value_any 8 x w HOK.out)
  have V9 := fun w => Hd.mk (value_any 9 x w HOK.out)
  have V0 := fun w => Hd.mk (value_any 0 x w HOK.out)
  rw [hlo] at k1 k5 k7 V8
  rw [hhi] at k2 k6 k7 V9
  rw [k3, hu] at V0
  rw [hu] at k4 k7
  have kw := write_0 u k4
  have WR := fun w (h : Tabs w) => Hd.mk (write15_any e8 0 0 u w (by decide) (by unfold i64R; decide) k4 h)
  have RD := fun w (h : Tabs w) => Hd.mk (read15_any (w8 u) 0 0 w (by rw [kw.2.2]; decide) (by unfold i64R; decide) h)
  simp only [kw.1] at WR
  simp only [kw.2.1] at RD
  have F8 := fun w (h : Tabs w) => Hd.mk (fits15_any 8 lo w h k5)
  have F9 := fun w (h : Tabs w) => Hd.mk (fits15_any 9 hi w h k6)
  rw [k1] at F8
  rw [k2] at F9
  obtain ⟨hs, hhs⟩ : ∃ q, wrap64 (hi * 4294967296) = q := ⟨_, rfl⟩
  have hand : bits .and .i64 lo 4294967295 = lo % 4294967296 := i64_and_low lo
  obtain ⟨ll, hll⟩ : ∃ q, lo % 4294967296 = q := ⟨_, rfl⟩
  rw [hhs, hll] at k7
  rw [hll] at hand
  have hsum : sumW x = wrap64 (x.s + x.a) := rfl
  rw [hu] at hsum
  have hb := Blk.new W 23 (whCells x)
  have TB0 : Hd (TB W (W.alloc (.cells (whCells x).toArray 23))) := ⟨(TB.refl hT).alloc _⟩
  have HB := Hd.mk hb
  have HS := Hd.mk (small15_any _ TB0.out.t)
  obtain ⟨xs, xa, xp, xi, xb, xz, xl⟩ := x
  unfold whV at V8 V9 V0 ⊢
  unfold whCells at HS TB0 HB
  unfold e8 at WR
  obtain ⟨tx, htx⟩ : ∃ q, w8 u = q := ⟨_, rfl⟩
  rw [htx] at WR RD
  have hz : tx.size = 8 := by rw [← htx]; exact kw.2.2
  clear hv hT k1 k2 k3 k4 k5 k6 kw hlo hhi hu hll htx hb
  have hsum' : wrap64 (xs + xa) = u := hsum.symm
  clear hsum
  have hc : ∀ {w' : World}, Blk w' W.heap.size 23 [.int .i64 xs, .int .i64 xa, .int .i64 xp, .int .i64 xi, .int .i64 xb, .int .i64 xz, .int .i64 xl] → w'.cell? ⟨W.heap.size, 0, none⟩ = some (.int .i64 xs) ∧ w'.cell? ⟨W.heap.size, 1, none⟩ = some (.int .i64 xa) ∧ w'.cell? ⟨W.heap.size, 2, none⟩ = some (.int .i64 xp) ∧ w'.cell? ⟨W.heap.size, 3, none⟩ = some (.int .i64 xi) ∧ w'.cell? ⟨W.heap.size, 4, none⟩ = some (.int .i64 xb) ∧ w'.cell? ⟨W.heap.size, 5, none⟩ = some (.int .i64 xz) ∧ w'.cell? ⟨W.heap.size, 6, none⟩ = some (.int .i64 xl) := fun h =>
    ⟨h.at (j := 0) rfl, h.at (j := 1) rfl, h.at (j := 2) rfl, h.at (j := 3) rfl, h.at (j := 4) rfl, h.at (j := 5) rfl, h.at (j := 6) rfl⟩
  have HC := Hd.mk @hc; clear hc
  go_enter Tryd.func6, Tryd.ntmps6
  go_wp2_with fail
  refine HS.out.mono ?_
  rintro e w1 ⟨rfl, kk⟩
  have T1 := Hd.mk (TB0.out.step kk)
  have P1 := Hd.mk (HB.out.below kk HB.out.lt); clear kk HS TB0 HB
  obtain ⟨b0, b1, b2, b3, b4, b5, b6⟩ := HC.out P1.out
  go_wp2_with fail
  refine (V8 _).out.mono ?_
  rintro e w2 ⟨rfl, kk⟩
  have T2 := Hd.mk (T1.out.step kk)
  have P2 := Hd.mk (P1.out.below kk P1.out.lt); clear kk T1 P1 b0 b1 b2 b3 b4 b5 b6
  obtain ⟨b0, b1, b2, b3, b4, b5, b6⟩ := HC.out P2.out
  go_wp2_with fail
  refine (V9 _).out.mono ?_
  rintro e w3 ⟨rfl, kk⟩
  have T3 := Hd.mk (T2.out.step kk)
  have P3 := Hd.mk (P2.out.below kk P2.out.lt); clear kk T2 P2 b0 b1 b2 b3 b4 b5 b6
  obtain ⟨b0, b1, b2, b3, b4, b5, b6⟩ := HC.out P3.out
  go_wp2_with fail
  refine (V0 _).out.mono ?_
  rintro e w4 ⟨rfl, kk⟩
  have T4 := Hd.mk (T3.out.step kk)
  have P4 := Hd.mk (P3.out.below kk P3.out.lt); clear kk T3 P3 b0 b1 b2 b3 b4 b5 b6
  go_wp2_with fail
  refine (WR _ T4.out.t).out.mono ?_
  rintro e w5 ⟨rfl, kk⟩
  have T5 := Hd.mk (T4.out.step kk)
  have P5 := Hd.mk (P4.out.below kk P4.out.lt); clear kk T4 P4
  go_wp2_with fail
  refine (RD _ T5.out.t).out.mono ?_
  rintro e w6 ⟨rfl, kk⟩
  have T6 := Hd.mk (T5.out.step kk)
  have P6 := Hd.mk (P5.out.below kk P5.out.lt); clear kk T5 P5
  obtain ⟨b0, b1, b2, b3, b4, b5, b6⟩ := HC.out P6.out
  go_wp2_with fail
  refine (F8 _ T6.out.t).out.mono ?_
  rintro e w7 ⟨rfl, rfl⟩
  go_wp2_with fail
  refine (F9 _ T6.out.t).out.mono ?_
  rintro e w8 ⟨rfl, rfl⟩
  go_wp2
  go_ret
  exact ⟨rfl, T6.out.b⟩

end Go.Proofs.YtmngicdgapkbmaaDoor.W
