/-
  RelocFits: the walk.
-/
import Derived.Test.YtmngicdgapkbmaaDoorFt
import Derived.Test.YtmngicdgapkbmaaDoorSm15
namespace Go.Proofs.YtmngicdgapkbmaaDoor.W
open Go.RowKit Go.ChangeShapes Go.WideShapes
set_option linter.unusedVariables false

theorem td_bd (n d : Int) (h : 0 < d) : n.tdiv d = if 0 ≤ n then n / d else -((-n) / d) := by
  split
  · exact Int.tdiv_eq_ediv_of_nonneg (by omega)
  · rw [show n = -(-n) by omega, Int.neg_tdiv, Int.tdiv_eq_ediv_of_nonneg (by omega)]; simp

set_option maxHeartbeats 2000000 in
theorem fitsL_none (W : World) (k n : Int) (hk : -9223372036854775808 ≤ k ∧ k ≤ 9223372036854775807) (hv : -9223372036854775808 ≤ n ∧ n ≤ 9223372036854775807) (hT : Tabs W) (h : isK k = false) :
    Calls Tryd.prog 7 #[.int .i64 k, .int .i64 n] W fun e w' => e = .returned (.bool true) ∧ Below W.heap.size W w' := by
  obtain ⟨l1, l2, l3, l4, l5, l6⟩ := fits_none h n
  have HS := Hd.mk (small15_any _ hT)
  have TB0 := Hd.mk (TB.refl hT)
  have HF := fun w (h : Tabs w) => Hd.mk (fits15_any k n w h hv)
  have HW := fun w (h : Tabs w) => Hd.mk (width_any k w h)
  have HC := fun w (h : Tabs w) => Hd.mk (code_any k w h)
  have HD0 := fun w => Hd.mk (direct_any k 0 w)
  have HD2 := fun w => Hd.mk (direct_any k 2 w)
  have i0 : i64R 0 := by unfold i64R; decide
  have i1 : i64R 1 := by unfold i64R; decide
  have i2 : i64R 2 := by unfold i64R; decide
  have HV := fun w => Hd.mk (value_any k ⟨n, 1, 0, 0, 0, 2, 0⟩ w ⟨hv, i1, i0, i0, i0, i2, i0⟩)
  rw [l1] at HF
  rw [l2, l3] at HW
  rw [l4] at HC
  rw [l5] at HD0 HD2
  rw [l6] at HV
  unfold whV at HV
  clear l1 l2 l3 l4 l5 l6 i0 i1 i2 hk hv hT h
  go_enter Tryd.func7, Tryd.ntmps7
  go_wp2_with fail
  refine HS.out.mono ?_
  rintro e w1 ⟨rfl, kk⟩
  have T1 := Hd.mk (TB0.out.step kk); clear kk HS TB0
  go_wp2_with fail
  refine (HF _ T1.out.t).out.mono ?_
  rintro e w2 ⟨rfl, rfl⟩
  go_wp2_with fail
  refine (HW _ T1.out.t).out.mono ?_
  rintro e w2 ⟨rfl, kk⟩
  have T2 := Hd.mk (T1.out.step kk); clear kk T1
  go_wp2_with fail
  refine (HC _ T2.out.t).out.mono ?_
  rintro e w3 ⟨rfl, rfl⟩
  go_wp2_with fail
  refine (HD0 _).out.mono ?_
  rintro e w3 ⟨rfl, rfl⟩
  go_wp2_with fail
  refine (HD2 _).out.mono ?_
  rintro e w3 ⟨rfl, rfl⟩
  go_wp2_with fail
  refine (HV _).out.mono ?_
  rintro e w3 ⟨rfl, kk⟩
  have T3 := Hd.mk (T2.out.step kk); clear kk T2
  go_wp2
  go_ret
  exact ⟨rfl, T3.out.b⟩

set_option maxHeartbeats 4000000 in
theorem fitsL_yes (W : World) (k n : Int) (hv : -9223372036854775808 ≤ n ∧ n ≤ 9223372036854775807) (hT : Tabs W) (h : isK k = true) (z : Int) (hz : sizeI k = z) (hz' : z = 8 ∨ z = 4 ∨ z = 2) :
    Calls Tryd.prog 7 #[.int .i64 k, .int .i64 n] W fun e w' => e = .returned (.bool true) ∧ Below W.heap.size W w' := by
  have L := fit_law hv h
  have HS := Hd.mk (small15_any _ hT)
  have TB0 := Hd.mk (TB.refl hT)
  have HF := fun w (h : Tabs w) => Hd.mk (fits15_any k n w h hv)
  have HF0 := fun w (h : Tabs w) => Hd.mk (fits15_any k 0 w h (by unfold i64R; decide))
  have HW := fun w (h : Tabs w) => Hd.mk (width_any k w h)
  have HC := fun w (h : Tabs w) => Hd.mk (code_any k w h)
  have HWR := fun w (h : Tabs w) => Hd.mk (write15_any e8 0 k n w (by decide) (by unfold i64R; decide) hv h)
  rw [hz] at HW
  rw [L.f0] at HF0
  unfold e8 at HWR
  obtain ⟨q1, hq1⟩ : ∃ q, n.tdiv 2 = q := ⟨_, rfl⟩
  have b1 : -4611686018427387904 ≤ q1 ∧ q1 ≤ 4611686018427387904 := by
    rw [← hq1]
    have := td_bd n 2 (by decide)
    omega
  obtain ⟨q2, hq2⟩ : ∃ q, q1.tdiv 8 = q := ⟨_, rfl⟩
  have b2 : -576460752303423488 ≤ q2 ∧ q2 ≤ 576460752303423488 := by
    rw [← hq2]
    have := td_bd q1 8 (by decide)
    omega
  obtain ⟨q3, hq3⟩ : ∃ q, q2 * 8 = q := ⟨_, rfl⟩
  have b3 : i64R q3 := by unfold i64R; omega
  have r1 : IntKind.i64.wrap q1 = q1 := IntWalk.i64_in _ (by omega)
  have r2 : IntKind.i64.wrap q2 = q2 := IntWalk.i64_in _ (by omega)
  have r3 : IntKind.i64.wrap q3 = q3 := IntWalk.i64_in _ b3
  have HF3 := fun w (h : Tabs w) => Hd.mk (fits15_any k q3 w h b3)
  have zn0 : (z == 0) = false := by simp; omega
  rcases hf : fits15 k n with _ | _
  · have z8 : (z == 8) = false := by simp; intro h8; have := L.f8 (hz.trans h8); rw [hf] at this; cases this
    rw [hf] at HF
    have hw := L.w0 hf
    unfold e8 at hw
    rw [hw] at HWR
    have HL := Hd.mk L
    clear hf hw L hT h hz hz' hv b1 b2 b3 r1 r2 r3 hq1 hq2 hq3
    go_enter Tryd.func7, Tryd.ntmps7
    go_wp2_with fail
    refine HS.out.mono ?_
    rintro e w1 ⟨rfl, kk⟩
    have T1 := Hd.mk (TB0.out.step kk); clear kk HS TB0
    go_wp2_with fail
    refine (HF _ T1.out.t).out.mono ?_
    rintro e w2 ⟨rfl, rfl⟩
    go_wp2_with fail
    refine (HW _ T1.out.t).out.mono ?_
    rintro e w2 ⟨rfl, kk⟩
    have T2 := Hd.mk (T1.out.step kk); clear kk T1
    go_wp2_with fail
    refine (HF0 _ T2.out.t).out.mono ?_
    rintro e w3 ⟨rfl, rfl⟩
    go_wp2_with fail
    refine (HC _ T2.out.t).out.mono ?_
    rintro e w3 ⟨rfl, rfl⟩
    rcases hc : code15 k with _ | _
    · go_wp2_with fail
      refine (HWR _ T2.out.t).out.mono ?_
      rintro e w3 ⟨rfl, kk⟩
      have T3 := Hd.mk (T2.out.step kk); clear kk T2
      have HRD := Hd.mk (read15_any ⟨#[]⟩ 0 k w3 (by decide) (by unfold i64R; decide) T3.out.t)
      go_wp2_with fail
      refine HRD.out.mono ?_
      rintro e w4 ⟨rfl, kk⟩
      have T4 := Hd.mk (T3.out.step kk); clear kk T3
      go_wp2
      go_quiet (fail)
      go_wp2
      go_ret
      exact ⟨rfl, Below.chain T4.out.b ⟨rfl, rfl, rfl, Nat.le_refl _, fun _ _ => rfl⟩⟩
    · have ho := HL.out.c hc
      rw [ho]
      go_wp2
      go_ret
      exact ⟨rfl, T2.out.b⟩
  · have h3 := L.h hf
    rw [hq1, hq2, hq3] at h3
    rw [h3] at HF3
    rw [hf] at HF
    have HL := Hd.mk L
    have HFN : k ≠ 3 → -128 < n → n < 128 → ∀ w (h : Tabs w), Hd (Calls Tryd.prog 13 #[.int .i64 k, .int .i64 (-n)] w fun e w' => e = .returned (.bool true) ∧ w = w') := fun a b c w h => ⟨by
      have := fits15_any k (-n) w h (by unfold i64R; omega)
      rw [L.n hf a b c] at this
      exact this⟩
    have HN := Hd.mk HFN
    have H0 := Hd.mk hz'
    have HV := Hd.mk hv
    have HFF := Hd.mk hf
    have hcs : (k = 3) ∨ (k ≠ 3 ∧ ¬ -128 < n) ∨ (k ≠ 3 ∧ -128 < n ∧ ¬ n < 128) ∨ (k ≠ 3 ∧ -128 < n ∧ n < 128) := by omega
    have HZ := Hd.mk hz
    have rn : -128 < n → n < 128 → IntKind.i64.wrap (-n) = -n := fun a b => IntWalk.i64_in _ (by omega)
    have RN := Hd.mk rn
    have HCS := Hd.mk hcs
    clear hf h3 L hT h hz hz' hv b1 b2 b3 HFN hcs rn
    -- the walk up to Code
    have fin : ∀ (w3 : World), Hd (TB W w3) → True := fun _ _ => trivial
    clear fin
    rcases hc : code15 k with _ | _
    · have hw := HL.out.w hc HFF.out
      rw [HZ.out] at hw
      obtain ⟨tx, htx⟩ : ∃ tx, putS e8 0 z n = tx := ⟨_, rfl⟩
      rw [htx] at hw
      obtain ⟨e1, e2, e3, e4⟩ := hw
      unfold e8 at e1 e4
      rw [e1] at HWR
      have HRD := fun w (h : Tabs w) => Hd.mk (read15_any tx 0 k w (by rw [e3]; decide) (by unfold i64R; decide) h)
      rw [e2] at HRD
      rw [hc] at HC
      clear e1 e2 htx hc
      rcases H0.out with rfl | rfl | rfl
      all_goals (simp only [Int.reduceToNat] at e4; rcases HCS.out with c1 | ⟨c1, c2⟩ | ⟨c1, c2, c3⟩ | ⟨c1, c2, c3⟩)
      all_goals (
        first
        | (have k3 : (k != 3) = false := by simp [c1]
           clear c1)
        | (have k3 : (k != 3) = true := by simp [c1]
           have d1 : decide (-128 < n) = true := by simp [c2]
           have d2 : decide (n < 128) = true := by simp [c3]
           have rr := RN.out c2 c3
           have FN := fun w h => HN.out c1 c2 c3 w h
           clear c1 c2 c3)
        | (have k3 : (k != 3) = true := by simp [c1]
           have d1 : decide (-128 < n) = true := by simp [c2]
           have d2 : decide (n < 128) = false := by simp [c3]
           clear c1 c2)
        | (have k3 : (k != 3) = true := by simp [c1]
           have d1 : decide (-128 < n) = false := by simp [c2]
           clear c1)
        go_enter Tryd.func7, Tryd.ntmps7
        go_wp2_with fail
        refine HS.out.mono ?_
        rintro e w1 ⟨rfl, kk⟩
        have T1 := Hd.mk (TB0.out.step kk); clear kk
        go_wp2_with fail
        refine (HF _ T1.out.t).out.mono ?_
        rintro e w2 ⟨rfl, rfl⟩
        go_wp2_with fail
        refine (HW _ T1.out.t).out.mono ?_
        rintro e w2 ⟨rfl, kk⟩
        have T2 := Hd.mk (T1.out.step kk); clear kk T1
        go_wp2_with fail
        refine (HF0 _ T2.out.t).out.mono ?_
        rintro e w3 ⟨rfl, rfl⟩
        go_wp2_with fail
        refine (HF3 _ T2.out.t).out.mono ?_
        rintro e w3 ⟨rfl, rfl⟩
        go_wp2_with fail
        try (refine (FN _ T2.out.t).out.mono ?_; rintro e w3 ⟨rfl, rfl⟩; go_wp2_with fail)
        refine (HC _ T2.out.t).out.mono ?_
        rintro e w3 ⟨rfl, rfl⟩
        go_wp2_with fail
        refine (HWR _ T2.out.t).out.mono ?_
        rintro e w3 ⟨rfl, kk⟩
        have T3 := Hd.mk (T2.out.step kk); clear kk T2
        go_wp2_with fail
        refine (HRD _ T3.out.t).out.mono ?_
        rintro e w4 ⟨rfl, kk⟩
        have T4 := Hd.mk (T3.out.step kk); clear kk T3
        go_wp2
        go_quiet (fail)
        go_wp2
        go_ret
        exact ⟨rfl, Below.chain T4.out.b ⟨rfl, rfl, rfl, Nat.le_refl _, fun _ _ => rfl⟩⟩)
    · have ho := HL.out.c hc
      rw [ho] at HW
      rw [hc] at HC
      clear ho hc
      rcases H0.out with rfl | rfl | rfl
      all_goals (rcases HCS.out with c1 | ⟨c1, c2⟩ | ⟨c1, c2, c3⟩ | ⟨c1, c2, c3⟩)
      all_goals (
        first
        | (have k3 : (k != 3) = false := by simp [c1]
           clear c1)
        | (have k3 : (k != 3) = true := by simp [c1]
           have d1 : decide (-128 < n) = true := by simp [c2]
           have d2 : decide (n < 128) = true := by simp [c3]
           have rr := RN.out c2 c3
           have FN := fun w h => HN.out c1 c2 c3 w h
           clear c1 c2 c3)
        | (have k3 : (k != 3) = true := by simp [c1]
           have d1 : decide (-128 < n) = true := by simp [c2]
           have d2 : decide (n < 128) = false := by simp [c3]
           clear c1 c2)
        | (have k3 : (k != 3) = true := by simp [c1]
           have d1 : decide (-128 < n) = false := by simp [c2]
           clear c1)
        go_enter Tryd.func7, Tryd.ntmps7
        go_wp2_with fail
        refine HS.out.mono ?_
        rintro e w1 ⟨rfl, kk⟩
        have T1 := Hd.mk (TB0.out.step kk); clear kk
        go_wp2_with fail
        refine (HF _ T1.out.t).out.mono ?_
        rintro e w2 ⟨rfl, rfl⟩
        go_wp2_with fail
        refine (HW _ T1.out.t).out.mono ?_
        rintro e w2 ⟨rfl, kk⟩
        have T2 := Hd.mk (T1.out.step kk); clear kk T1
        go_wp2_with fail
        refine (HF0 _ T2.out.t).out.mono ?_
        rintro e w3 ⟨rfl, rfl⟩
        go_wp2_with fail
        refine (HF3 _ T2.out.t).out.mono ?_
        rintro e w3 ⟨rfl, rfl⟩
        go_wp2_with fail
        try (refine (FN _ T2.out.t).out.mono ?_; rintro e w3 ⟨rfl, rfl⟩; go_wp2_with fail)
        refine (HC _ T2.out.t).out.mono ?_
        rintro e w3 ⟨rfl, rfl⟩
        go_wp2
        go_ret
        exact ⟨rfl, T2.out.b⟩)

theorem fitsL_any (W : World) (k n : Int) (hk : -9223372036854775808 ≤ k ∧ k ≤ 9223372036854775807) (hv : -9223372036854775808 ≤ n ∧ n ≤ 9223372036854775807) (hT : Tabs W) :
    Calls Tryd.prog 7 #[.int .i64 k, .int .i64 n] W fun e w' => e = .returned (.bool true) ∧ Below W.heap.size W w' := by
  rcases h : isK k with _ | _
  · exact fitsL_none W k n hk hv hT h
  · exact fitsL_yes W k n hv hT h _ rfl (fit_law hv h).z

end Go.Proofs.YtmngicdgapkbmaaDoor.W
