/-
  The walk of the reference's Decode.
-/
import Derived.Test.YtlohhlbbkliehaaGreatDoorRop9
import Derived.Test.YtlohhlbbkliehaaGreatDoorDec
namespace Go.Proofs.YtlohhlbbkliehaaGreatDoor.W
open Go.RowKit
set_option linter.unusedVariables false

theorem cut4 (s : ByteArray) (a : Nat) (h : a + 4 ≤ s.size) : (le (cut s a 4) : Int) = byteAt s a + 256 * byteAt s (a + 1) + 65536 * byteAt s (a + 2) + 16777216 * byteAt s (a + 3) := by
  have e0 := byteAt_eq s a (by omega)
  have e1 := byteAt_eq s (a + 1) (by omega)
  have e2 := byteAt_eq s (a + 2) (by omega)
  have e3 := byteAt_eq s (a + 3) (by omega)
  have c1 := cut_succ s a 0 (by omega)
  have c2 := cut_succ s a 1 (by omega)
  have c3 := cut_succ s a 2 (by omega)
  have c4 := cut_succ s a 3 (by omega)
  have c0 : cut s a 0 = [] := by unfold cut; rw [List.take_zero]
  rw [c0] at c1
  rw [c4, c3, c2, c1, e0, e1, e2, e3]
  simp only [List.nil_append, List.cons_append, le, Nat.add_zero]
  omega

theorem df (n sz j : Nat) (J : Int) (hJ : J = j) (h : n + j < sz) (hs : sz ≤ 1000) : 0 ≤ (n : Int) + J ∧ (n : Int) + J < (sz : Int) ∧ IntKind.i64.wrap ((n : Int) + J) = (n : Int) + J ∧ ((n : Int) + J).toNat = n + j := by
  subst hJ
  exact ⟨by omega, by omega, IntWalk.i64_in _ (by omega), by omega⟩
theorem wbyte (s : ByteArray) (n : Nat) (h : n < s.size) : IntKind.i64.wrap (((s[n]'h).toNat : Nat) : Int) = byteAt s n := by
  rw [byteAt_eq s n h]; have := (s[n]'h).toNat_lt; exact IntWalk.i64_in _ (by omega)
theorem dec_sum (s : ByteArray) (n : Nat) (h : n + 8 ≤ s.size) : ∃ p5 p45 p6 p456 p7 u : Int, IntKind.i64.wrap (256 * byteAt s (n + 5)) = p5 ∧ IntKind.i64.wrap (byteAt s (n + 4) + p5) = p45 ∧ IntKind.i64.wrap (65536 * byteAt s (n + 6)) = p6 ∧ IntKind.i64.wrap (p45 + p6) = p456 ∧
    IntKind.i64.wrap (16777216 * byteAt s (n + 7)) = p7 ∧ IntKind.i64.wrap (p456 + p7) = u ∧ IntKind.i64.wrap (u - 4294967296) = u - 4294967296 ∧ ((decide ((2147483648 : Int) ≤ u) = true ∧ immAt s n = u - 4294967296) ∨ (decide ((2147483648 : Int) ≤ u) = false ∧ immAt s n = u)) := by
  have hc := cut4 s (n + 4) (by omega)
  have g4 := byteAt_range s (n + 4)
  have g5 := byteAt_range s (n + 5)
  have g6 := byteAt_range s (n + 6)
  have g7 := byteAt_range s (n + 7)
  rw [show n + 4 + 1 = n + 5 from rfl, show n + 4 + 2 = n + 6 from rfl, show n + 4 + 3 = n + 7 from rfl] at hc
  have him : immAt s n = if 2147483648 ≤ le (cut s (n + 4) 4) then (le (cut s (n + 4) 4) : Int) - 4294967296 else (le (cut s (n + 4) 4) : Int) := by
    unfold immAt getI
    simp
  generalize le (cut s (n + 4) 4) = U at hc him
  generalize byteAt s (n + 4) = y4 at *
  generalize byteAt s (n + 5) = y5 at *
  generalize byteAt s (n + 6) = y6 at *
  generalize byteAt s (n + 7) = y7 at *
  refine ⟨256 * y5, y4 + 256 * y5, 65536 * y6, y4 + 256 * y5 + 65536 * y6, 16777216 * y7, (U : Int), IntWalk.i64_in _ (by omega), IntWalk.i64_in _ (by omega), IntWalk.i64_in _ (by omega), IntWalk.i64_in _ (by omega), IntWalk.i64_in _ (by omega), ?_, IntWalk.i64_in _ (by omega), ?_⟩
  · rw [IntWalk.i64_in _ (by omega)]; omega
  · by_cases h : 2147483648 ≤ U
    · left; rw [if_pos h] at him; exact ⟨by simp; omega, him⟩
    · right; rw [if_neg h] at him; exact ⟨by simp; omega, him⟩

theorem two_ins (w : World) (x0 x1 x2 x3 y : Int) : ∃ wv, wv = ((w.alloc (.cells #[.int .i64 0, .int .i64 0, .int .i64 0, .int .i64 0, .int .i64 0] 23)).alloc (.cells #[.int .i64 x0, .int .i64 x1, .int .i64 x2, .int .i64 x3, .int .i64 y] 23)).drew.drew ∧ Hd (Below w.heap.size w wv) ∧ Hd (Blk wv w.heap.size 23 [.int .i64 0, .int .i64 0, .int .i64 0, .int .i64 0, .int .i64 0]) ∧ Hd (Blk wv (w.heap.size + 1) 23 [.int .i64 x0, .int .i64 x1, .int .i64 x2, .int .i64 x3, .int .i64 y]) := by
  refine ⟨_, rfl, ⟨by go_grown⟩, ⟨((Blk.new w 23 [.int .i64 0, .int .i64 0, .int .i64 0, .int .i64 0, .int .i64 0]).alloc _).drew.drew⟩, ⟨?_⟩⟩
  have := (Blk.new (w.alloc (.cells #[.int .i64 0, .int .i64 0, .int .i64 0, .int .i64 0, .int .i64 0] 23)) 23 [.int .i64 x0, .int .i64 x1, .int .i64 x2, .int .i64 x3, .int .i64 y]).drew.drew
  rw [show (w.alloc (.cells #[.int .i64 0, .int .i64 0, .int .i64 0, .int .i64 0, .int .i64 0] 23)).heap.size = w.heap.size + 1 from by simp] at this
  exact this

set_option maxHeartbeats 4000000 in
set_option maxRecDepth 100000 in
theorem rdecode_in (s : ByteArray) (n : Nat) (w : World) (hs : s.size ≤ 1000) (hn : n + 8 ≤ s.size) :
    Calls Tryz.prog 12 #[.string s, .int .i64 n] w fun e w' => e = .returned (.tuple #[decV s n, .bool (decB s n)]) ∧ Below w.heap.size w w' := by
    have hB : Hd (decB s n = insAt s n) := ⟨by unfold decB; rw [decide_eq_true (by omega)]; rfl⟩
    have h0 : n < s.size := by omega
    have h1 : n + 1 < s.size := by omega
    have h2 : n + 2 < s.size := by omega
    have h3 : n + 3 < s.size := by omega
    have h4 : n + 4 < s.size := by omega
    have h5 : n + 5 < s.size := by omega
    have h6 : n + 6 < s.size := by omega
    have h7 : n + 7 < s.size := by omega
    have t1 : ¬ (n : Int) < 0 := by omega
    have t2 : ¬ (s.size : Int) < (n : Int) := by omega
    have t3 : ¬ (s.size : Int) - (n : Int) < 8 := by omega
    have t3w : IntKind.i64.wrap ((s.size : Int) - (n : Int)) = (s.size : Int) - (n : Int) := IntWalk.i64_in _ (by omega)
    have hsz : (s.size : Int) ≤ 1000 := by omega
    have hnz : (n : Int) ≤ 1000 := by omega
    have i0 : (0 : Int) ≤ (n : Int) := by omega
    have i1 : (n : Int) < (s.size : Int) := by omega
    have q0 := wbyte s n h0
    obtain ⟨z0, hz0⟩ : ∃ z, s[n]'h0 = z := ⟨_, rfl⟩
    rw [hz0] at q0
    have q1 := wbyte s (n + 1) h1
    obtain ⟨z1, hz1⟩ : ∃ z, s[n + 1]'h1 = z := ⟨_, rfl⟩
    rw [hz1] at q1
    have q2 := wbyte s (n + 2) h2
    obtain ⟨z2, hz2⟩ : ∃ z, s[n + 2]'h2 = z := ⟨_, rfl⟩
    rw [hz2] at q2
    have q3 := wbyte s (n + 3) h3
    obtain ⟨z3, hz3⟩ : ∃ z, s[n + 3]'h3 = z := ⟨_, rfl⟩
    rw [hz3] at q3
    have q4 := wbyte s (n + 4) h4
    obtain ⟨z4, hz4⟩ : ∃ z, s[n + 4]'h4 = z := ⟨_, rfl⟩
    rw [hz4] at q4
    have q5 := wbyte s (n + 5) h5
    obtain ⟨z5, hz5⟩ : ∃ z, s[n + 5]'h5 = z := ⟨_, rfl⟩
    rw [hz5] at q5
    have q6 := wbyte s (n + 6) h6
    obtain ⟨z6, hz6⟩ : ∃ z, s[n + 6]'h6 = z := ⟨_, rfl⟩
    rw [hz6] at q6
    have q7 := wbyte s (n + 7) h7
    obtain ⟨z7, hz7⟩ : ∃ z, s[n + 7]'h7 = z := ⟨_, rfl⟩
    rw [hz7] at q7
    obtain ⟨p5, p45, p6, p456, p7, u, s1, s2, s3, s4, s5, s6, s7, hcs⟩ := dec_sum s n hn
    have F1 := Hd.mk (df n s.size 1 1 rfl h1 hs)
    have F2 := Hd.mk (df n s.size 2 2 rfl h2 hs)
    have F3 := Hd.mk (df n s.size 3 3 rfl h3 hs)
    obtain ⟨i8, i9, r4, n4⟩ := df n s.size 4 4 rfl h4 hs
    obtain ⟨i10, i11, r5, n5⟩ := df n s.size 5 5 rfl h5 hs
    obtain ⟨i12, i13, r6, n6⟩ := df n s.size 6 6 rfl h6 hs
    obtain ⟨i14, i15, r7, n7⟩ := df n s.size 7 7 rfl h7 hs
    obtain ⟨x0, hx0⟩ : ∃ x, byteAt s n = x := ⟨_, rfl⟩
    obtain ⟨x1, hx1⟩ : ∃ x, byteAt s (n + 1) = x := ⟨_, rfl⟩
    obtain ⟨x2, hx2⟩ : ∃ x, byteAt s (n + 2) = x := ⟨_, rfl⟩
    obtain ⟨x3, hx3⟩ : ∃ x, byteAt s (n + 3) = x := ⟨_, rfl⟩
    obtain ⟨y4, hy4⟩ : ∃ x, byteAt s (n + 4) = x := ⟨_, rfl⟩
    obtain ⟨y5, hy5⟩ : ∃ x, byteAt s (n + 5) = x := ⟨_, rfl⟩
    obtain ⟨y6, hy6⟩ : ∃ x, byteAt s (n + 6) = x := ⟨_, rfl⟩
    obtain ⟨y7, hy7⟩ : ∃ x, byteAt s (n + 7) = x := ⟨_, rfl⟩
    obtain ⟨x4, hx4⟩ : ∃ x, immAt s n = x := ⟨_, rfl⟩
    rw [hx0] at q0; rw [hx1] at q1; rw [hx2] at q2; rw [hx3] at q3
    rw [hy4] at q4 s2; rw [hy5] at q5 s1; rw [hy6] at q6 s3; rw [hy7] at q7 s5
    rw [hx4] at hcs
    have HV : Hd (decV s n = if insAt s n then .agg #[.int .i64 x0, .int .i64 x1, .int .i64 x2, .int .i64 x3, .int .i64 x4] else .agg #[.int .i64 0, .int .i64 0, .int .i64 0, .int .i64 0, .int .i64 0]) := ⟨by
      unfold decV; rw [hB.out, Int.toNat_natCast, hx0, hx1, hx2, hx3, hx4]⟩
    have HIns : Hd (insAt s n = rightB x0 x1 x2 x3 x4) := ⟨by unfold insAt; rw [hx0, hx1, hx2, hx3, hx4]⟩
    clear hx0 hx1 hx2 hx3 hx4 hy4 hy5 hy6 hy7 hs hn
    have HRR := fun w => Hd.mk (rright_any x0 x1 x2 x3 x4 w)
    obtain ⟨b, hb⟩ : ∃ b, rightB x0 x1 x2 x3 x4 = b := ⟨_, rfl⟩
    rw [hb] at HRR HIns
    rw [HIns.out] at HV hB
    have HCS := Hd.mk hcs
    have HQ := Hd.mk (And.intro q0 (And.intro q1 (And.intro q2 q3)))
    clear hb HIns hcs q0 q1 q2 q3
    go_enter Tryz.func12, Tryz.ntmps12
    go_wp2_with fail
    refine wp_region_lin default (fun _ => True) [(0, true), (1, true), (2, true), (3, true), (4, true), (5, true), (6, true), (7, true), (8, true), (9, true), (10, true), (11, true), (12, true), (13, true), (14, true), (15, true), (16, true), (17, true), (18, true), (19, true), (20, true), (21, true), (22, true), (23, true), (24, true), (25, true), (26, true)] (by kernel_rfl) (by kernel_rfl) rfl (by kernel_rfl) (by kernel_rfl) trivial ?_
    simp only [pick, List.getD_cons_zero, List.getD_cons_succ]
    repeat
      refine lin_free (v := ?_) (by rfl) ?_ ?_
      rotate_left
      · intro w' hSw
        go_simp
        first | done | with_reducible rfl
      simp only [Act.put, List.setIfInBounds_toArray, List.set_cons_zero, List.set_cons_succ]
    refine NoPanic.normal ?_
    have hcs := HCS.out
    obtain ⟨q0, q1, q2, q3⟩ := HQ.out
    obtain ⟨i2, i3, r1, n1⟩ := F1.out
    obtain ⟨i4, i5, r2, n2⟩ := F2.out
    obtain ⟨i6, i7, r3, n3⟩ := F3.out
    clear HCS HQ F1 F2 F3 s1 s2 s3 s4 s5 s6 q4 q5 q6 q7
    rcases hcs with ⟨du, hx4⟩ | ⟨du, hx4⟩
    all_goals
      go_wp2_with fail
      simp only [← hx4]
      clear hx4 du s7
      refine wp_region_lin default (fun _ => True) [(0, true), (1, true), (2, true), (3, true), (4, true), (5, true), (6, true), (7, true), (8, true), (9, true), (10, true), (11, true), (12, true), (13, true), (14, true), (15, true), (16, true), (17, true), (18, true), (19, true), (20, true), (21, false), (22, false)] (by kernel_rfl) (by kernel_rfl) rfl (by kernel_rfl) (by kernel_rfl) trivial ?_
      simp only [pick, List.getD_cons_zero, List.getD_cons_succ]
      repeat
        refine lin_free (v := ?_) (by rfl) ?_ ?_
        rotate_left
        · intro w' hSw
          go_simp
          first | done | with_reducible rfl
        simp only [Act.put, List.setIfInBounds_toArray, List.set_cons_zero, List.set_cons_succ]
      refine lin_bound (fun K hK => ?_)
      go_simp
      refine hK.out _ _ trivial ?_
      clear hK K
      refine lin_bound (fun K hK => ?_)
      go_simp
      refine hK.out _ _ trivial ?_
      clear hK K
      refine NoPanic.normal ?_
      go_wp2_with fail
      obtain ⟨wv, hwv, HKW, HR, HI⟩ := two_ins w x0 x1 x2 x3 x4
      rw [← hwv]
      clear hwv hz0 hz1 hz2 hz3 hz4 hz5 hz6 hz7 q0 q1 q2 q3 i2 i3 i4 i5 i6 i7 i8 i9 i10 i11 i12 i13 i14 i15 r1 r2 r3 r4 r5 r6 r7 n1 n2 n3 n4 n5 n6 n7 h0 h1 h2 h3 h4 h5 h6 h7 t3w hsz hnz i0 i1 t1 t2 t3
      refine (HRR _).out.mono ?_
      rintro e w5 ⟨rfl, k5⟩
      have hR5 := HR.out.below k5 HR.out.lt
      have hI5 := HI.out.below k5 HI.out.lt
      have HK5 : Hd (Below w.heap.size w w5) := ⟨Below.chain HKW.out k5⟩
      have a0 := hR5.at (j := 0) rfl
      have a1 := hR5.at (j := 1) rfl
      have a2 := hR5.at (j := 2) rfl
      have a3 := hR5.at (j := 3) rfl
      have a4 := hR5.at (j := 4) rfl
      have fr0 := hR5.free 0
      have fr1 := hR5.free 1
      have fr2 := hR5.free 2
      have fr3 := hR5.free 3
      have fr4 := hR5.free 4
      have c0 := hI5.at (j := 0) rfl
      have c1 := hI5.at (j := 1) rfl
      have c2 := hI5.at (j := 2) rfl
      have c3 := hI5.at (j := 3) rfl
      have c4 := hI5.at (j := 4) rfl
      clear k5 hR5 hI5 HR HI HKW
      rcases b with _ | _
      · have e1 : Hd (decB s n = false ∧ decV s n = .agg #[.int .i64 0, .int .i64 0, .int .i64 0, .int .i64 0, .int .i64 0]) := ⟨hB.out, HV.out⟩
        go_wp2
        refine bodyPost_ret (v := .tuple #[.agg #[.int .i64 0, .int .i64 0, .int .i64 0, .int .i64 0, .int .i64 0], .bool false]) (by simp [results, Tryz.results12, go_sem, a0, a1, a2, a3, a4]) rfl ⟨by rw [e1.out.1, e1.out.2], ?_⟩
        exact (((((HK5.out.setCell (by simp) _).setCell (by simp) _).setCell (by simp) _).setCell (by simp) _).setCell (by simp) _)
      · have e1 : Hd (decB s n = true) := ⟨hB.out⟩
        have e2 : Hd (decV s n = .agg #[.int .i64 x0, .int .i64 x1, .int .i64 x2, .int .i64 x3, .int .i64 x4]) := ⟨HV.out⟩
        go_wp2
        refine bodyPost_ret (v := .tuple #[.agg #[.int .i64 x0, .int .i64 x1, .int .i64 x2, .int .i64 x3, .int .i64 x4], .bool true]) (by simp [results, Tryz.results12, go_sem, a0, a1, a2, a3, a4]) rfl ⟨by rw [e1.out, e2.out], ?_⟩
        exact (((((HK5.out.setCell (by simp) _).setCell (by simp) _).setCell (by simp) _).setCell (by simp) _).setCell (by simp) _)

set_option maxHeartbeats 2000000 in
theorem rdecode_any (s : ByteArray) (x : Int) (w : World) (hs : s.size ≤ 1000) (hx : i64R x) :
    Calls Tryz.prog 12 #[.string s, .int .i64 x] w fun e w' => e = .returned (.tuple #[decV s x, .bool (decB s x)]) ∧ Below w.heap.size w w' := by
  by_cases hin : 0 ≤ x ∧ x + 8 ≤ s.size
  · obtain ⟨n, rfl⟩ : ∃ n : Nat, x = (n : Int) := ⟨x.toNat, by omega⟩
    exact rdecode_in s n w hs (by omega)
  · have hB : Hd (decB s x = false) := ⟨by unfold decB; rw [decide_eq_false hin]; rfl⟩
    have hV : Hd (decV s x = .agg #[.int .i64 0, .int .i64 0, .int .i64 0, .int .i64 0, .int .i64 0]) := ⟨by unfold decV; rw [hB.out]; rfl⟩
    have hor : x < 0 ∨ (¬ x < 0 ∧ (s.size : Int) < x) ∨ (¬ x < 0 ∧ ¬ (s.size : Int) < x ∧ (s.size : Int) - x < 8) := by omega
    have hsz : (s.size : Int) ≤ 1000 := by omega
    clear hin hs hx
    rcases hor with h | ⟨h, h'⟩ | ⟨h, h', h''⟩
    all_goals
      go_enter Tryz.func12, Tryz.ntmps12
      go_wp2
      refine bodyPost_ret (v := .tuple #[.agg #[.int .i64 0, .int .i64 0, .int .i64 0, .int .i64 0, .int .i64 0], .bool false]) (by simp [results, Tryz.results12, go_sem]) rfl ⟨by rw [hB.out, hV.out], by go_grown⟩

end Go.Proofs.YtlohhlbbkliehaaGreatDoor.W
