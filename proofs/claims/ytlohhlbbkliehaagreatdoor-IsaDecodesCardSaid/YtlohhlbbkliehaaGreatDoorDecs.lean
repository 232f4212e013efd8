/-
  IsaDecodes walked.
-/
import Derived.Test.YtlohhlbbkliehaaGreatDoorSm9
import Derived.Test.YtlohhlbbkliehaaGreatDoorWit9
import Derived.Test.YtlohhlbbkliehaaGreatDoorArgS
import Derived.Test.YtlohhlbbkliehaaGreatDoorP
namespace Go.Proofs.YtlohhlbbkliehaaGreatDoor.W
open Go.RowKit
set_option linter.unusedVariables false

theorem byteL_get (s : ByteArray) (n : Nat) (h : n + 8 ≤ s.size) (hs : s.size ≤ 1000) : byteL (immAt s n) 4 = cut s (n + 4) 4 := by
  have hf : fieldB s.size ((n : Int) + 4) 4 = true := by simp only [fieldB]; simp; omega
  have hb := put_back (s := s) (sg := true) hf
  have hgp : (getP s ((n : Int) + 4) 4 true).1 = immAt s n := by
    unfold getP
    rw [if_pos hf]
    have : ((n : Int) + 4).toNat = n + 4 := by omega
    rw [this]; rfl
  rw [hgp] at hb
  have h1 := hb.2.1
  unfold putS at h1
  rw [if_pos hb.1] at h1
  have e1 : ((n : Int) + 4).toNat = n + 4 := by omega
  rw [e1] at h1
  have h2 := cut_put s (n + 4) 4 (immAt s n) (by omega)
  have h3 : (⟨(putL s (n + 4) 4 (immAt s n)).toArray⟩ : ByteArray) = s := h1
  rw [h3] at h2
  exact h2.symm
theorem enc_at (s : ByteArray) (n : Nat) (h : n + 8 ≤ s.size) (hs : s.size ≤ 1000) (hi : insAt s n = true) :
    encS (byteAt s n) (byteAt s (n + 1)) (byteAt s (n + 2)) (byteAt s (n + 3)) (immAt s n) = s.extract n (n + 8) := by
  unfold encS
  unfold insAt at hi
  rw [if_pos hi, byteL_get s n h hs]
  have hb : ∀ j (hj : j < s.size), UInt8.ofNat (byteAt s j).toNat = s[j]'hj := fun j hj => by rw [byteAt_eq s j hj]; simp
  have h4 : encL (byteAt s n) (byteAt s (n + 1)) (byteAt s (n + 2)) (byteAt s (n + 3)) = cut s n 4 := by
    unfold encL
    rw [hb n (by omega), hb (n + 1) (by omega), hb (n + 2) (by omega), hb (n + 3) (by omega)]
    have c4 : cut s n 4 = s[n] :: cut s (n + 1) 3 := cut_cons s n 3 (by omega)
    have c3 : cut s (n + 1) 3 = s[n + 1] :: cut s (n + 2) 2 := cut_cons s (n + 1) 2 (by omega)
    have c2 : cut s (n + 2) 2 = s[n + 2] :: cut s (n + 3) 1 := cut_cons s (n + 2) 1 (by omega)
    have c1 : cut s (n + 3) 1 = s[n + 3] :: cut s (n + 4) 0 := cut_cons s (n + 3) 0 (by omega)
    rw [c4, c3, c2, c1]
    rfl
  rw [h4, ← cut_add]
  apply ByteArray.ext
  apply Array.toList_inj.1
  rw [Lib.extract_data]
  simp [cut]

set_option maxHeartbeats 4000000 in
set_option maxRecDepth 100000 in
theorem decodes_any (W : World) (s : ByteArray) (x : Int) (hs : s.size ≤ 140737488351232) (hx : -9223372036854775808 ≤ x ∧ x ≤ 9223372036854775807) (hT : Tabs W) : Calls Tryz.prog 5 #[.string s, .int .i64 x] W fun e w' => e = .returned (.bool true) ∧ Below W.heap.size W w' := by
  have HS := Hd.mk (small_any W hT)
  have HT := Hd.mk hT
  clear hT
  by_cases h3 : 300 < s.size
  · have hd : decide ((300 : Int) < (s.size : Int)) = true := by simp; omega
    go_enter Tryz.func5, Tryz.ntmps5
    go_wp2_with fail
    refine HS.out.mono ?_
    rintro e w1 ⟨rfl, k1⟩
    have K1 := Hd.mk k1
    clear k1
    go_wp2
    go_ret
    exact ⟨rfl, K1.out⟩
  · have hd : decide ((300 : Int) < (s.size : Int)) = false := by simp; omega
    have HD := Hd.mk (fun w h => decode_any s x w (by omega) hx h)
    by_cases hin : 0 ≤ x ∧ x + 8 ≤ s.size
    · obtain ⟨n, rfl⟩ : ∃ n : Nat, x = (n : Int) := ⟨x.toNat, by omega⟩
      have hn : n + 8 ≤ s.size := by omega
      have hB : decB s n = insAt s n := by unfold decB; rw [decide_eq_true hin]; rfl
      have hV : decV s n = if insAt s n then .agg #[.int .i64 (byteAt s n), .int .i64 (byteAt s (n + 1)), .int .i64 (byteAt s (n + 2)), .int .i64 (byteAt s (n + 3)), .int .i64 (immAt s n)] else .agg #[.int .i64 0, .int .i64 0, .int .i64 0, .int .i64 0, .int .i64 0] := by
        unfold decV; rw [hB]; rfl
      rw [hB, hV] at HD
      have hm := immAt_range s n hn
      have HE := Hd.mk (fun w h => encode_any (byteAt s n) (byteAt s (n + 1)) (byteAt s (n + 2)) (byteAt s (n + 3)) (immAt s n) w h hm)
      have HR := Hd.mk (fun w h => right_any (byteAt s n) (byteAt s (n + 1)) (byteAt s (n + 2)) (byteAt s (n + 3)) (immAt s n) w h hm)
      have hins : rightB (byteAt s n) (byteAt s (n + 1)) (byteAt s (n + 2)) (byteAt s (n + 3)) (immAt s n) = insAt s n := rfl
      rw [hins] at HE HR
      have t1 : ¬ (n : Int) < 0 := by omega
      have t2 : ¬ (s.size : Int) < (n : Int) := by omega
      have t3 : ¬ (s.size : Int) - (n : Int) < 8 := by omega
      have t4 : decide ((s.size : Int) < (n : Int)) = false := by simp; omega
      have t5 : decide ((s.size : Int) - (n : Int) < 8) = false := by simp; omega
      have t6 : decide ((n : Int) < 0) = false := by simp
      have r0 : IntKind.i64.wrap ((s.size : Int) - (n : Int)) = (s.size : Int) - (n : Int) := IntWalk.i64_in _ (by omega)
      obtain ⟨b, hb⟩ : ∃ b, insAt s n = b := ⟨_, rfl⟩
      rcases b with _ | _
      · rw [hb] at HR
        rw [hb, if_neg (by decide)] at HD
        have HE0 := Hd.mk (fun w h => encode_any 0 0 0 0 0 w h (by unfold i64R; omega))
        have hg := fun w => get_any s ((n : Int) + 4) 4 true w (by unfold maxLen; omega)
        have hgp : getP s ((n : Int) + 4) 4 true = (immAt s n, true) := by
          have hf : fieldB s.size ((n : Int) + 4) 4 = true := by simp only [fieldB]; simp; omega
          unfold getP
          rw [if_pos hf]
          have : ((n : Int) + 4).toNat = n + 4 := by omega
          rw [this]; rfl
        rw [hgp] at hg
        have HG := Hd.mk hg
        have h0 : n < s.size := by omega
        have h1 : n + 1 < s.size := by omega
        have h2 : n + 2 < s.size := by omega
        have h3' : n + 3 < s.size := by omega
        have i0 : (0 : Int) ≤ (n : Int) := by omega
        have i1 : (n : Int) < (s.size : Int) := by omega
        have i2 : (0 : Int) ≤ (n : Int) + 1 := by omega
        have i3 : (n : Int) + 1 < (s.size : Int) := by omega
        have i4 : (0 : Int) ≤ (n : Int) + 2 := by omega
        have i5 : (n : Int) + 2 < (s.size : Int) := by omega
        have i6 : (0 : Int) ≤ (n : Int) + 3 := by omega
        have i7 : (n : Int) + 3 < (s.size : Int) := by omega
        have r1 : IntKind.i64.wrap ((n : Int) + 1) = (n : Int) + 1 := IntWalk.i64_in _ (by omega)
        have r2 : IntKind.i64.wrap ((n : Int) + 2) = (n : Int) + 2 := IntWalk.i64_in _ (by omega)
        have r3 : IntKind.i64.wrap ((n : Int) + 3) = (n : Int) + 3 := IntWalk.i64_in _ (by omega)
        have r4 : IntKind.i64.wrap ((n : Int) + 4) = (n : Int) + 4 := IntWalk.i64_in _ (by omega)
        have n1 : ((n : Int) + 1).toNat = n + 1 := by omega
        have n2 : ((n : Int) + 2).toNat = n + 2 := by omega
        have n3 : ((n : Int) + 3).toNat = n + 3 := by omega
        have wb : ∀ x : UInt8, IntKind.i64.wrap (x.toNat : Int) = (x.toNat : Int) := fun x => IntWalk.i64_in _ (by have := x.toNat_lt; omega)
        have q0 : IntKind.i64.wrap (((s[n]'h0).toNat : Nat) : Int) = byteAt s n := by rw [wb, byteAt_eq s n h0]
        have q1 : IntKind.i64.wrap (((s[n + 1]'h1).toNat : Nat) : Int) = byteAt s (n + 1) := by rw [wb, byteAt_eq s (n + 1) h1]
        have q2 : IntKind.i64.wrap (((s[n + 2]'h2).toNat : Nat) : Int) = byteAt s (n + 2) := by rw [wb, byteAt_eq s (n + 2) h2]
        have q3 : IntKind.i64.wrap (((s[n + 3]'h3').toNat : Nat) : Int) = byteAt s (n + 3) := by rw [wb, byteAt_eq s (n + 3) h3']
        obtain ⟨x0, hx0⟩ : ∃ x, byteAt s n = x := ⟨_, rfl⟩
        obtain ⟨x1, hx1⟩ : ∃ x, byteAt s (n + 1) = x := ⟨_, rfl⟩
        obtain ⟨x2, hx2⟩ : ∃ x, byteAt s (n + 2) = x := ⟨_, rfl⟩
        obtain ⟨x3, hx3⟩ : ∃ x, byteAt s (n + 3) = x := ⟨_, rfl⟩
        obtain ⟨x4, hx4⟩ : ∃ x, immAt s n = x := ⟨_, rfl⟩
        rw [hx0, hx1, hx2, hx3, hx4] at HR
        rw [hx4] at HG
        rw [hx0] at q0; rw [hx1] at q1; rw [hx2] at q2; rw [hx3] at q3
        obtain ⟨b0, hb0⟩ : ∃ b, s[n]'h0 = b := ⟨_, rfl⟩
        obtain ⟨b1, hb1⟩ : ∃ b, s[n + 1]'h1 = b := ⟨_, rfl⟩
        obtain ⟨b2, hb2⟩ : ∃ b, s[n + 2]'h2 = b := ⟨_, rfl⟩
        obtain ⟨b3, hb3⟩ : ∃ b, s[n + 3]'h3' = b := ⟨_, rfl⟩
        rw [hb0] at q0; rw [hb1] at q1; rw [hb2] at q2; rw [hb3] at q3
        have HQ3 := Hd.mk (And.intro hb0 (And.intro hb1 (And.intro hb2 hb3)))
        have HQ := Hd.mk (And.intro i0 (And.intro i1 (And.intro i2 (And.intro i3 (And.intro i4 (And.intro i5 (And.intro i6 (And.intro i7 (And.intro r1 (And.intro r2 (And.intro r3 (And.intro n1 (And.intro n2 n3)))))))))))))
        have HQ2 := Hd.mk (And.intro q0 (And.intro q1 (And.intro q2 q3)))
        have ez : encS 0 0 0 0 0 = ⟨#[]⟩ := by kernel_rfl
        rw [ez, e_wrong] at HE0
        clear hb hB hV hm hins hx0 hx1 hx2 hx3 hx4 hs hx h3 hin hgp hg wb HE ez q0 q1 q2 q3 i0 i1 i2 i3 i4 i5 i6 i7 r1 r2 r3 n1 n2 n3 hb0 hb1 hb2 hb3
        go_enter Tryz.func5, Tryz.ntmps5
        go_wp2_with fail
        refine HS.out.mono ?_
        rintro e w1 ⟨rfl, k1⟩
        have K1 := Hd.mk k1
        clear k1
        go_wp2_with fail
        refine (HD.out _ (HT.out.below K1.out).f).mono ?_
        rintro e w2 ⟨rfl, k2⟩
        have K2 := Hd.mk (Below.chain K1.out k2)
        clear k2 K1 HD
        have HI : Hd (Blk (w2.alloc (.cells #[.int .i64 0, .int .i64 0, .int .i64 0, .int .i64 0, .int .i64 0] 23)) w2.heap.size 23 [.int .i64 0, .int .i64 0, .int .i64 0, .int .i64 0, .int .i64 0]) := ⟨Blk.new _ _ _⟩
        have K3 := Hd.mk (K2.out.alloc K2.out.size (.cells #[.int .i64 0, .int .i64 0, .int .i64 0, .int .i64 0, .int .i64 0] 23))
        obtain ⟨I, hI⟩ : ∃ I, w2.heap.size = I := ⟨_, rfl⟩
        rw [hI] at HI
        clear K2
        go_wp2_with fail
        refine (HE0.out _ (HT.out.below K3.out).f).mono ?_
        rintro e w4 ⟨rfl, k4⟩
        have HI4 := Hd.mk (HI.out.below k4 HI.out.lt)
        have K4 := Hd.mk (Below.chain K3.out k4)
        clear k4 K3 HI HE0 hI
        go_wp2_with fail
        refine (HG.out _).mono ?_
        rintro e wg ⟨rfl, rfl⟩
        clear r4 HG t1 t2 t3 t4 t5 t6 r0 hd
        go_wp2_with fail
        obtain ⟨i0, i1, i2, i3, i4, i5, i6, i7, r1, r2, r3, n1, n2, n3⟩ := HQ.out
        obtain ⟨q0, q1, q2, q3⟩ := HQ2.out
        obtain ⟨hb0, hb1, hb2, hb3⟩ := HQ3.out
        clear HQ HQ2
        refine wp_region_lin default (fun w' => Blk w' I 23 [.int .i64 0, .int .i64 0, .int .i64 0, .int .i64 0, .int .i64 0]) [(0, true), (1, true), (2, true), (3, true), (4, true), (5, true), (6, true), (7, true), (8, true), (9, true), (10, true), (11, true), (12, true), (13, true), (14, true), (15, true), (16, true), (17, true), (18, true), (19, true), (20, true), (21, true), (22, true), (23, true), (24, true), (25, true), (26, true), (27, true), (28, false), (29, true), (30, true), (31, true)] (by kernel_rfl) (by kernel_rfl) rfl (by kernel_rfl) (by kernel_rfl) (HI4.out.drew) ?_
        simp only [pick, List.getD_cons_zero, List.getD_cons_succ]
        repeat
          refine lin_free (v := ?_) (by rfl) ?_ ?_
          rotate_left
          · intro w' hSw
            have c0 := hSw.at (j := 0) rfl
            have c1 := hSw.at (j := 1) rfl
            have c2 := hSw.at (j := 2) rfl
            have c3 := hSw.at (j := 3) rfl
            have c4 := hSw.at (j := 4) rfl
            clear hSw
            go_simp
            first | done | with_reducible rfl
          simp only [Act.put, List.setIfInBounds_toArray, List.set_cons_zero, List.set_cons_succ]
        clear q0 q1 q2 q3 i0 i1 i2 i3 i4 i5 i6 i7 r1 r2 r3 n1 n2 n3 hb0 hb1 hb2 hb3
        refine lin_bound (fun K hK => ?_)
        go_simp
        refine (HR.out _ (HT.out.below K4.out.drew).f).mono ?_
        rintro e w5 ⟨rfl, k5⟩
        dsimp only
        have HI5 := Hd.mk (HI4.out.drew.below k5 HI4.out.lt)
        have K5 := Hd.mk (Below.chain K4.out.drew k5)
        clear k5 K4 HR
        refine hK.out _ _ HI5.out ?_
        clear hK K
        repeat
          refine lin_free (v := ?_) (by rfl) ?_ ?_
          rotate_left
          · intro w' hSw
            go_simp
            first | done | with_reducible rfl
          simp only [Act.put, List.setIfInBounds_toArray, List.set_cons_zero, List.set_cons_succ]
        refine NoPanic.normal ?_
        go_wp2
        go_ret
        exact ⟨rfl, K5.out⟩
      · have he := enc_at s n hn (by omega) hb
        rw [he, hb] at HE
        rw [hb] at HR
        rw [hb, if_pos rfl] at HD
        have r8 : IntKind.i64.wrap ((n : Int) + 8) = (n : Int) + 8 := IntWalk.i64_in _ (by omega)
        have n8 : ((n : Int) + 8).toNat = n + 8 := by omega
        have i1 : (0 : Int) ≤ (n : Int) := by omega
        have i2 : (n : Int) ≤ (n : Int) + 8 := by omega
        have i3 : (n : Int) + 8 ≤ (s.size : Int) := by omega
        obtain ⟨x0, hx0⟩ : ∃ x, byteAt s n = x := ⟨_, rfl⟩
        obtain ⟨x1, hx1⟩ : ∃ x, byteAt s (n + 1) = x := ⟨_, rfl⟩
        obtain ⟨x2, hx2⟩ : ∃ x, byteAt s (n + 2) = x := ⟨_, rfl⟩
        obtain ⟨x3, hx3⟩ : ∃ x, byteAt s (n + 3) = x := ⟨_, rfl⟩
        obtain ⟨x4, hx4⟩ : ∃ x, immAt s n = x := ⟨_, rfl⟩
        rw [hx0, hx1, hx2, hx3, hx4] at HD HE HR
        clear he hb hB hV hm hins hx0 hx1 hx2 hx3 hx4 hs hx h3 hin
        go_enter Tryz.func5, Tryz.ntmps5
        go_wp2_with fail
        refine HS.out.mono ?_
        rintro e w1 ⟨rfl, k1⟩
        have K1 := Hd.mk k1
        clear k1
        go_wp2_with fail
        refine (HD.out _ (HT.out.below K1.out).f).mono ?_
        rintro e w2 ⟨rfl, k2⟩
        have K2 := Hd.mk (Below.chain K1.out k2)
        clear k2 K1 HD
        have HI : Hd (Blk (w2.alloc (.cells #[.int .i64 x0, .int .i64 x1, .int .i64 x2, .int .i64 x3, .int .i64 x4] 23)) w2.heap.size 23 [.int .i64 x0, .int .i64 x1, .int .i64 x2, .int .i64 x3, .int .i64 x4]) := ⟨Blk.new _ _ _⟩
        have K3 := Hd.mk (K2.out.alloc K2.out.size (.cells #[.int .i64 x0, .int .i64 x1, .int .i64 x2, .int .i64 x3, .int .i64 x4] 23))
        obtain ⟨I, hI⟩ : ∃ I, w2.heap.size = I := ⟨_, rfl⟩
        rw [hI] at HI
        clear K2
        go_wp2_with fail
        refine (HE.out _ (HT.out.below K3.out).f).mono ?_
        rintro e w4 ⟨rfl, k4⟩
        have HI4 := Hd.mk (HI.out.below k4 HI.out.lt)
        have K4 := Hd.mk (Below.chain K3.out k4)
        clear k4 K3 HI HE hI
        have c0 := HI4.out.at (j := 0) rfl
        have c1 := HI4.out.at (j := 1) rfl
        have c2 := HI4.out.at (j := 2) rfl
        have c3 := HI4.out.at (j := 3) rfl
        have c4 := HI4.out.at (j := 4) rfl
        go_wp2_with fail
        refine (HR.out _ (HT.out.below K4.out).f).mono ?_
        rintro e w5 ⟨rfl, k5⟩
        have K5 := Hd.mk (Below.chain K4.out k5)
        clear k5 K4 HI4 HR c0 c1 c2 c3 c4
        go_wp2
        go_ret
        exact ⟨rfl, K5.out⟩
    · have hB : decB s x = false := by unfold decB; rw [decide_eq_false hin]; rfl
      have hV : decV s x = .agg #[.int .i64 0, .int .i64 0, .int .i64 0, .int .i64 0, .int .i64 0] := by unfold decV; rw [hB]; rfl
      rw [hB, hV] at HD
      have hor : (x < 0 ∧ True) ∨ ((¬ x < 0 ∧ (s.size : Int) < x) ∨ (¬ x < 0 ∧ ¬ (s.size : Int) < x ∧ (s.size : Int) - x < 8)) := by
        by_cases h0 : x < 0
        · exact .inl ⟨h0, trivial⟩
        · by_cases h1 : (s.size : Int) < x
          · exact .inr (.inl ⟨h0, h1⟩)
          · exact .inr (.inr ⟨h0, h1, by omega⟩)
      have hx2 := hx.2
      clear hB hV hs hx hin
      rcases hor with ⟨h1, _⟩ | ⟨h1, h2⟩ | ⟨h1, h2, h4⟩
      · have d1 : decide (x < 0) = true := decide_eq_true h1
        go_enter Tryz.func5, Tryz.ntmps5
        go_wp2_with fail
        refine HS.out.mono ?_
        rintro e w1 ⟨rfl, k1⟩
        have K1 := Hd.mk k1
        clear k1
        go_wp2_with fail
        refine (HD.out _ (HT.out.below K1.out).f).mono ?_
        rintro e w2 ⟨rfl, k2⟩
        have K2 := Hd.mk (Below.chain K1.out k2)
        clear k2 K1 HD
        have HI : Hd (Blk (w2.alloc (.cells #[.int .i64 0, .int .i64 0, .int .i64 0, .int .i64 0, .int .i64 0] 23)) w2.heap.size 23 [.int .i64 0, .int .i64 0, .int .i64 0, .int .i64 0, .int .i64 0]) := ⟨Blk.new _ _ _⟩
        have K3 := Hd.mk (K2.out.alloc K2.out.size (.cells #[.int .i64 0, .int .i64 0, .int .i64 0, .int .i64 0, .int .i64 0] 23))
        obtain ⟨I, hI⟩ : ∃ I, w2.heap.size = I := ⟨_, rfl⟩
        rw [hI] at HI
        clear K2
        have c0 := HI.out.at (j := 0) rfl
        have c1 := HI.out.at (j := 1) rfl
        have c2 := HI.out.at (j := 2) rfl
        have c3 := HI.out.at (j := 3) rfl
        have c4 := HI.out.at (j := 4) rfl
        go_wp2
        go_ret
        exact ⟨rfl, K3.out⟩
      · have d1 : decide (x < 0) = false := decide_eq_false h1
        have d2 : decide ((s.size : Int) < x) = true := decide_eq_true h2
        go_enter Tryz.func5, Tryz.ntmps5
        go_wp2_with fail
        refine HS.out.mono ?_
        rintro e w1 ⟨rfl, k1⟩
        have K1 := Hd.mk k1
        clear k1
        go_wp2_with fail
        refine (HD.out _ (HT.out.below K1.out).f).mono ?_
        rintro e w2 ⟨rfl, k2⟩
        have K2 := Hd.mk (Below.chain K1.out k2)
        clear k2 K1 HD
        have HI : Hd (Blk (w2.alloc (.cells #[.int .i64 0, .int .i64 0, .int .i64 0, .int .i64 0, .int .i64 0] 23)) w2.heap.size 23 [.int .i64 0, .int .i64 0, .int .i64 0, .int .i64 0, .int .i64 0]) := ⟨Blk.new _ _ _⟩
        have K3 := Hd.mk (K2.out.alloc K2.out.size (.cells #[.int .i64 0, .int .i64 0, .int .i64 0, .int .i64 0, .int .i64 0] 23))
        obtain ⟨I, hI⟩ : ∃ I, w2.heap.size = I := ⟨_, rfl⟩
        rw [hI] at HI
        clear K2
        have c0 := HI.out.at (j := 0) rfl
        have c1 := HI.out.at (j := 1) rfl
        have c2 := HI.out.at (j := 2) rfl
        have c3 := HI.out.at (j := 3) rfl
        have c4 := HI.out.at (j := 4) rfl
        go_wp2
        go_ret
        exact ⟨rfl, K3.out⟩
      · have d1 : decide (x < 0) = false := decide_eq_false h1
        have d2 : decide ((s.size : Int) < x) = false := decide_eq_false h2
        have d3 : decide ((s.size : Int) - x < 8) = true := decide_eq_true h4
        have r0 : IntKind.i64.wrap ((s.size : Int) - x) = (s.size : Int) - x := IntWalk.i64_in _ (by omega)
        clear hx2
        go_enter Tryz.func5, Tryz.ntmps5
        go_wp2_with fail
        refine HS.out.mono ?_
        rintro e w1 ⟨rfl, k1⟩
        have K1 := Hd.mk k1
        clear k1
        go_wp2_with fail
        refine (HD.out _ (HT.out.below K1.out).f).mono ?_
        rintro e w2 ⟨rfl, k2⟩
        have K2 := Hd.mk (Below.chain K1.out k2)
        clear k2 K1 HD
        have HI : Hd (Blk (w2.alloc (.cells #[.int .i64 0, .int .i64 0, .int .i64 0, .int .i64 0, .int .i64 0] 23)) w2.heap.size 23 [.int .i64 0, .int .i64 0, .int .i64 0, .int .i64 0, .int .i64 0]) := ⟨Blk.new _ _ _⟩
        have K3 := Hd.mk (K2.out.alloc K2.out.size (.cells #[.int .i64 0, .int .i64 0, .int .i64 0, .int .i64 0, .int .i64 0] 23))
        obtain ⟨I, hI⟩ : ∃ I, w2.heap.size = I := ⟨_, rfl⟩
        rw [hI] at HI
        clear K2
        have c0 := HI.out.at (j := 0) rfl
        have c1 := HI.out.at (j := 1) rfl
        have c2 := HI.out.at (j := 2) rfl
        have c3 := HI.out.at (j := 3) rfl
        have c4 := HI.out.at (j := 4) rfl
        go_wp2
        go_ret
        exact ⟨rfl, K3.out⟩

end Go.Proofs.YtlohhlbbkliehaaGreatDoor.W
