/-
  RelocBack: the walks where nothing is written for want of room, of a kind, of a fit.
-/
import Derived.Test.YtmngicdgapkbmaaDoorBk
import Derived.Test.YtmngicdgapkbmaaDoorSm15
import Derived.Test.YtmngicdgapkbmaaDoorRop
namespace Go.Proofs.YtmngicdgapkbmaaDoor.W
open Go.RowKit Go.ChangeShapes Go.WideShapes
set_option linter.unusedVariables false

set_option maxHeartbeats 2000000 in
set_option maxRecDepth 100000 in
theorem bk_long (W : World) (s : ByteArray) (x k v : Int) (hs : s.size ≤ 140737488351232) (hT : Tabs W) (hl : 300 < s.size) :
    Calls Tryd.prog 4 #[.string s, .int .i64 x, .int .i64 k, .int .i64 v] W fun e w' => e = .returned (.bool true) ∧ Below W.heap.size W w' := by
  have HS := Hd.mk (small15_any _ hT)
  have d : decide ((300 : Int) < s.size) = true := by simp; omega
  clear hT hl
  go_enter Tryd.func4, Tryd.ntmps4
  go_wp2_with fail
  refine HS.out.mono ?_
  rintro e w1 ⟨rfl, kk⟩
  have K := Hd.mk kk; clear kk
  go_wp2
  go_ret
  exact ⟨rfl, K.out⟩

set_option maxHeartbeats 2000000 in
set_option maxRecDepth 100000 in
/-- wPre false: no kind, no place, no fit -/
theorem bk_pre (W : World) (s : ByteArray) (x k v : Int) (hx : i64R x) (hv : i64R v) (hT : Tabs W) (hl : s.size ≤ 300) (hp : wPre s x k v = false) :
    Calls Tryd.prog 4 #[.string s, .int .i64 x, .int .i64 k, .int .i64 v] W fun e w' => e = .returned (.bool true) ∧ Below W.heap.size W w' := by
  have HS := Hd.mk (small15_any _ hT)
  have TB0 := Hd.mk (TB.refl hT)
  have d : decide ((300 : Int) < s.size) = false := by simp; omega
  have HW := fun w (h : Tabs w) => Hd.mk (width_any k w h)
  have HWR := fun w (h : Tabs w) => Hd.mk (write15_any s x k v w (by omega) hx hv h)
  have hw : write15 s x k v = (⟨#[]⟩, false) := by unfold write15; rw [hp]; rfl
  rw [hw] at HWR
  have HF := fun w (h : Tabs w) => Hd.mk (fits15_any k v w h hv)
  have hcs : (decide (0 < sizeI k) = false) ∨ (decide (0 < sizeI k) = true ∧ decide (0 ≤ x) = false) ∨ (decide (0 < sizeI k) = true ∧ decide (0 ≤ x) = true ∧ decide (x ≤ s.size) = false) ∨ (decide (0 < sizeI k) = true ∧ decide (0 ≤ x) = true ∧ decide (x ≤ s.size) = true ∧ fits15 k v = false) := by
    unfold wPre at hp
    by_cases a : 0 < sizeI k
    · by_cases b : 0 ≤ x
      · by_cases c : x ≤ s.size
        · right; right; right
          rw [decide_eq_true (show 0 ≤ x ∧ x ≤ s.size from ⟨b, c⟩), Bool.and_true] at hp
          simp [a, b, c, hp]
        · right; right; left; simp [a, b]; omega
      · right; left; simp [a]; omega
    · left; simp; omega
  have hsz : (s.size : Int) ≤ 300 := by omega
  obtain ⟨o, ho⟩ : ∃ o, offI k = o := ⟨_, rfl⟩
  obtain ⟨z, hz⟩ : ∃ z, sizeI k = z := ⟨_, rfl⟩
  rw [ho, hz] at HW
  rw [hz] at hcs
  clear ho hz hw hp hl hT hv hx
  rcases hcs with c1 | ⟨c1, c2⟩ | ⟨c1, c2, c3⟩ | ⟨c1, c2, c3, c4⟩
  all_goals (
    try rw [c4] at HF
    go_enter Tryd.func4, Tryd.ntmps4
    go_wp2_with fail
    refine HS.out.mono ?_
    rintro e w1 ⟨rfl, kk⟩
    have T1 := Hd.mk (TB0.out.step kk); clear kk
    go_wp2_with fail
    refine (HW _ T1.out.t).out.mono ?_
    rintro e w2 ⟨rfl, kk⟩
    have T2 := Hd.mk (T1.out.step kk); clear kk T1
    go_wp2_with fail
    refine (HWR _ T2.out.t).out.mono ?_
    rintro e w3 ⟨rfl, kk⟩
    have T3 := Hd.mk (T2.out.step kk); clear kk T2
    first
    | (go_wp2
       go_ret
       exact ⟨rfl, T3.out.b⟩)
    | (go_wp2_with fail
       refine (HF _ T3.out.t).out.mono ?_
       rintro e w4 ⟨rfl, rfl⟩
       go_wp2
       go_ret
       exact ⟨rfl, T3.out.b⟩))

end Go.Proofs.YtmngicdgapkbmaaDoor.W
