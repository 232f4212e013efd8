/-
  RelocBack: the walks where kind, place and value fit.
-/
import Derived.Test.YtmngicdgapkbmaaDoorBackN
import Derived.BigQuiet
import Derived.Deep.QuietTactic
namespace Go.Proofs.YtmngicdgapkbmaaDoor.W
open Go.RowKit Go.ChangeShapes Go.WideShapes
set_option linter.unusedVariables false

theorem wPre_parts {s : ByteArray} {x k v : Int} (hp : wPre s x k v = true) : fits15 k v = true ∧ 0 ≤ x ∧ x ≤ s.size ∧ isK k = true := by
  unfold wPre at hp
  simp only [Bool.and_eq_true, decide_eq_true_eq] at hp
  refine ⟨hp.1, hp.2.1, hp.2.2, ?_⟩
  rcases h : isK k with _ | _
  · have := (fits_none h v).1; rw [hp.1] at this; cases this
  · rfl

set_option maxHeartbeats 2000000 in
set_option maxRecDepth 100000 in
/-- no room -/
theorem bk_room (W : World) (s : ByteArray) (x k v : Int) (hx : i64R x) (hv : i64R v) (hT : Tabs W) (hl : s.size ≤ 300) (hp : wPre s x k v = true) (hr : ¬ offI k + sizeI k ≤ s.size - x) :
    Calls Tryd.prog 4 #[.string s, .int .i64 x, .int .i64 k, .int .i64 v] W fun e w' => e = .returned (.bool true) ∧ Below W.heap.size W w' := by
  obtain ⟨hf, hx0, hx1, hk⟩ := wPre_parts hp
  have HS := Hd.mk (small15_any _ hT)
  have TB0 := Hd.mk (TB.refl hT)
  have d : decide ((300 : Int) < s.size) = false := by simp; omega
  have HW := fun w (h : Tabs w) => Hd.mk (width_any k w h)
  have HWR := fun w (h : Tabs w) => Hd.mk (write15_any s x k v w (by omega) hx hv h)
  rw [back_no hv hk (by unfold canB; rw [hp, decide_eq_false hr]; rfl)] at HWR
  have HF := fun w (h : Tabs w) => Hd.mk (fits15_any k v w h hv)
  rw [hf] at HF
  have hz := (fit_law hv hk).z
  have ho : 0 ≤ offI k ∧ offI k ≤ 8 := by
    obtain ⟨n, rfl, hn⟩ := isK_nat hk
    unfold offI; rw [hk]; exact kOff_le n hn
  have c1 : decide (0 < sizeI k) = true := by simp; omega
  have c2 : decide (0 ≤ x) = true := by simp [hx0]
  have c3 : decide (x ≤ s.size) = true := by simp [hx1]
  have c4 : decide (offI k + sizeI k ≤ s.size - x) = false := by simp; omega
  have r1 : IntKind.i64.wrap (s.size - x) = s.size - x := IntWalk.i64_in _ (by omega)
  have r2 : IntKind.i64.wrap (offI k + sizeI k) = offI k + sizeI k := IntWalk.i64_in _ (by omega)
  have hsz : (s.size : Int) ≤ 300 := by omega
  obtain ⟨o, eo⟩ : ∃ o, offI k = o := ⟨_, rfl⟩
  obtain ⟨z, ez⟩ : ∃ z, sizeI k = z := ⟨_, rfl⟩
  rw [eo, ez] at HW c4 r2
  rw [ez] at c1
  clear eo ez hz ho hr hp hf hx0 hx1 hk hx hv hT hl
  go_enter Tryd.func4, Tryd.ntmps4
  go_wp2_with fail
  refine HS.out.mono ?_
  rintro e w1 ⟨rfl, kk⟩
  have T1 := Hd.mk (TB0.out.step kk); clear kk
  go_wp2_with fail
  refine (HW _ T1.out.t).out.mono ?_
  rintro e w2 ⟨rfl, kk⟩
  have T2 := Hd.mk (T1.out.step kk); clear kk T1
  go_wp2_with fail
  refine (HWR _ T2.out.t).out.mono ?_
  rintro e w3 ⟨rfl, kk⟩
  have T3 := Hd.mk (T2.out.step kk); clear kk T2
  go_wp2_with fail
  refine (HF _ T3.out.t).out.mono ?_
  rintro e w4 ⟨rfl, rfl⟩
  go_wp2
  go_ret
  exact ⟨rfl, T3.out.b⟩

theorem TB.drewN {W w : World} (h : TB W w) (q : Nat) : TB W (w.drewN q) := h.step ⟨rfl, rfl, rfl, Nat.le_refl _, fun _ _ => rfl⟩

theorem byte_same {s t : ByteArray} {j : Nat} (h1 : j < s.size) (h2 : j < t.size) (h : t.data.toList[j]? = s.data.toList[j]?) : s[j] = t[j] := by
  rw [List.getElem?_eq_getElem (show j < t.data.toList.length from h2), List.getElem?_eq_getElem (show j < s.data.toList.length from h1)] at h
  exact (Option.some.inj h).symm

set_option maxHeartbeats 4000000 in
set_option maxRecDepth 100000 in
/-- a kind that is not in code -/
theorem bk_data (W : World) (s : ByteArray) (x k v : Int) (hx : i64R x) (hv : i64R v) (hT : Tabs W) (hl : s.size ≤ 300) (hp : wPre s x k v = true) (hr : offI k + sizeI k ≤ s.size - x) (hc : code15 k = false) :
    Calls Tryd.prog 4 #[.string s, .int .i64 x, .int .i64 k, .int .i64 v] W fun e w' => e = .returned (.bool true) ∧ Below W.heap.size W w' := by
  obtain ⟨hf, hx0, hx1, hk⟩ := wPre_parts hp
  obtain ⟨t, L⟩ := back_yes hv hk (show canB s x k v = true by unfold canB; rw [hp, decide_eq_true hr, hc]; rfl)
  have HS := Hd.mk (small15_any _ hT)
  have TB0 := Hd.mk (TB.refl hT)
  have d : decide ((300 : Int) < s.size) = false := by simp; omega
  have HW := fun w (h : Tabs w) => Hd.mk (width_any k w h)
  have HWR := fun w (h : Tabs w) => Hd.mk (write15_any s x k v w (by omega) hx hv h)
  rw [L.w] at HWR
  have HF := fun w (h : Tabs w) => Hd.mk (fits15_any k v w h hv)
  rw [hf] at HF
  have HC := fun w (h : Tabs w) => Hd.mk (code_any k w h)
  rw [hc] at HC
  have HRD := fun w (h : Tabs w) => Hd.mk (read15_any t x k w (by rw [L.z]; omega) hx h)
  rw [L.r] at HRD
  have hz := (fit_law hv hk).z
  have ho : 0 ≤ offI k ∧ offI k ≤ 8 := by
    obtain ⟨n, rfl, hn⟩ := isK_nat hk
    unfold offI; rw [hk]; exact kOff_le n hn
  have c1 : decide (0 < sizeI k) = true := by simp; omega
  have c2 : decide (0 ≤ x) = true := by simp [hx0]
  have c3 : decide (x ≤ s.size) = true := by simp [hx1]
  have c4 : decide (offI k + sizeI k ≤ s.size - x) = true := by simp; omega
  have r1 : IntKind.i64.wrap (s.size - x) = s.size - x := IntWalk.i64_in _ (by omega)
  have r2 : IntKind.i64.wrap (offI k + sizeI k) = offI k + sizeI k := IntWalk.i64_in _ (by omega)
  have r3 : IntKind.i64.wrap (x + offI k) = x + offI k := IntWalk.i64_in _ (by omega)
  have r4 : IntKind.i64.wrap (x + offI k + sizeI k) = x + offI k + sizeI k := IntWalk.i64_in _ (by omega)
  have hsz : (s.size : Int) ≤ 300 := by omega
  have htz : t.size = s.size := L.z
  have HO := Hd.mk L.o
  obtain ⟨o, eo⟩ : ∃ o, offI k = o := ⟨_, rfl⟩
  obtain ⟨z, ez⟩ : ∃ z, sizeI k = z := ⟨_, rfl⟩
  rw [eo, ez] at HW c4 r2 r4 HO
  rw [eo] at r3
  rw [ez] at c1
  clear eo ez hz ho hr hp hf hx0 hx1 hk hx hv hT hl L hc
  go_enter Tryd.func4, Tryd.ntmps4
  go_wp2_with fail
  refine HS.out.mono ?_
  rintro e w1 ⟨rfl, kk⟩
  have T1 := Hd.mk (TB0.out.step kk); clear kk
  go_wp2_with fail
  refine (HW _ T1.out.t).out.mono ?_
  rintro e w2 ⟨rfl, kk⟩
  have T2 := Hd.mk (T1.out.step kk); clear kk T1
  go_wp2_with fail
  refine (HWR _ T2.out.t).out.mono ?_
  rintro e w3 ⟨rfl, kk⟩
  have T3 := Hd.mk (T2.out.step kk); clear kk T2
  go_wp2_with fail
  refine (HF _ T3.out.t).out.mono ?_
  rintro e w4 ⟨rfl, rfl⟩
  go_wp2_with fail
  refine (HC _ T3.out.t).out.mono ?_
  rintro e w4 ⟨rfl, rfl⟩
  go_wp2_with fail
  refine (HRD _ T3.out.t).out.mono ?_
  rintro e w4 ⟨rfl, kk⟩
  have T4 := Hd.mk (T3.out.step kk); clear kk T3
  go_wp2
  go_loopw [18] (fun i wr => ∃ j : Nat, j ≤ s.size ∧ i = .int .i64 j ∧ Hd (TB W wr)) (fun i _ => s.size - (intOf i).toNat)
  case atStart => exact ⟨0, Nat.zero_le _, rfl, T4⟩
  case round =>
    obtain ⟨j, hj, rfl, TR⟩ := hrel
    clear T4
    by_cases hlt : j < s.size
    · have hlt2 : j < t.size := by rw [htz]; exact hlt
      by_cases a : (j : Int) < x + o
      · have a1 : decide ((j : Int) < x + o) = true := by simp [a]
        have hb : s[j] = t[j] := byte_same hlt hlt2 (HO.out j hlt (.inl a))
        clear a
        go_wp2
        go_quiet (fail)
        go_wp2
        go_round
        case rel => exact ⟨j + 1, hlt, by go_num, ⟨TR.out.drewN _⟩⟩
        case measure => simp [intOf]; omega
      · have a1 : decide ((j : Int) < x + o) = false := by simp; omega
        by_cases b : x + o + z ≤ (j : Int)
        · have a2 : decide (x + o + z ≤ (j : Int)) = true := by simp [b]
          have hb : s[j] = t[j] := byte_same hlt hlt2 (HO.out j hlt (.inr b))
          clear a b
          go_wp2
          go_quiet (fail)
          go_wp2
          go_round
          case rel => exact ⟨j + 1, hlt, by go_num, ⟨TR.out.drewN _⟩⟩
          case measure => simp [intOf]; omega
        · have a2 : decide (x + o + z ≤ (j : Int)) = false := by simp; omega
          clear a b
          go_wp2
          go_quiet (fail)
          go_wp2
          go_round
          case rel => exact ⟨j + 1, hlt, by go_num, ⟨TR.out.drewN _⟩⟩
          case measure => simp [intOf]; omega
    · obtain rfl : j = s.size := by omega
      go_wp2_with fail
      refine (HC _ TR.out.t).out.mono ?_
      rintro e w4 ⟨rfl, rfl⟩
      go_wp2
      go_ret
      exact ⟨rfl, TR.out.b⟩

end Go.Proofs.YtmngicdgapkbmaaDoor.W
