/-
  The walk of DiskTurns.
-/
import Derived.Test.YtcleocgaooblfaaLawP
import Derived.Test.YtcleocgaooblfaaSmall
import Derived.Test.YtcleocgaooblfaaArgD
namespace Go.Proofs.Ytcleocgaooblfaa.W
open Go.RowKit
set_option linter.unusedVariables false

theorem size_list (s : ByteArray) : s.data.toList.length = s.size := rfl

theorem bytes_le {s : ByteArray} {n : Nat} (h : s.size ≤ n) : s.data.toList.length ≤ n := h

theorem pieces_le (f k : Nat) (s : List UInt8) : (pieces f k s).length ≤ s.length := pieces_len f _ _ _

set_option maxHeartbeats 2000000 in
set_option maxRecDepth 100000 in
theorem turns_any (W : World) (a b : ByteArray) (step : Int) (v : Value) (ks : List Int) (ha : a.size ≤ maxLen) (hb : b.size ≤ maxLen) (hs : -9223372036854775808 ≤ step ∧ step ≤ 9223372036854775807) (hv : ArgInts W v ks) :
    Calls Try.prog 3 #[.string a, .string b, .int .i64 step, v] W fun e w' => e = .returned (.bool true) ∧ Below W.heap.size W w' := by
  have HV := Hd.mk hv
  have HA := Hd.mk ha
  have HB := Hd.mk hb
  clear hv ha hb
  go_enter Try.func3, Try.ntmps3
  go_wp2_with fail
  refine (small_any W).mono ?_; rintro e wa ⟨rfl, hb0⟩
  have B0 := Hd.mk hb0; clear hb0
  go_wp2_with fail
  refine (One.new wa).mono ?_; rintro e w0 ⟨D, rfl, h0⟩
  have H0 := Hd.mk h0; clear h0
  rw [newS_tS] at H0
  have hend : ∀ {w' : World} {σ : St}, One wa w' D σ → Below W.heap.size W w' := fun h => Below.chain B0.out h.below
  have HEnd := Hd.mk @hend; clear hend
  by_cases la : a.size ≤ 50000
  · have la' : ¬ (50000 : Int) < (a.size : Int) := by omega
    by_cases lb : b.size ≤ 50000
    · have lb' : ¬ (50000 : Int) < (b.size : Int) := by omega
      have HLA := Hd.mk la
      have HLB := Hd.mk lb
      clear la lb
      have t1 := turn_w1 a.data.toList HLA.out
      have t2 := turn_f1 a.data.toList
      have q1 := pieces_le 3 0 a.data.toList
      have q2 := pieces_le 4 0 b.data.toList
      rw [size_list] at q1 q2
      have HQ1 := Hd.mk (Nat.le_trans q1 (Nat.le_trans HLA.out (show 50000 ≤ 100000000 by decide)))
      have HQ2 := Hd.mk (Nat.le_trans q2 (Nat.le_trans HLB.out (show 50000 ≤ 100000000 by decide)))
      have HT1 := Hd.mk t1
      have HT2 := Hd.mk t2
      have HT3 := Hd.mk (turn_w2 a.data.toList b.data.toList HLB.out)
      clear t1 t2 q1 q2
      go_wp2_with fail
      refine (H0.out.write 3 0 a 0 _ (fit_tS _ _ _ _ _ _ (by simp)) (by have := HLA.out; simp [tS]; omega) (by decide) (Nat.le_trans HLA.out (by decide)) (by rw [HT1.out.1]; rfl) HT1.out.2).mono ?_; rintro e w1 ⟨rfl, h1⟩
      have H1 := Hd.mk h1; clear h1
      go_wp2_with fail
      refine (H1.out.flush 3 0 _ (fit_tS _ _ _ _ _ _ HQ1.out) (by rw [HT2.out.1]; rfl) HT2.out.2).mono ?_; rintro e w2 ⟨rfl, h2⟩
      have H2 := Hd.mk h2; clear h2
      have fin : ∀ {w' : World} {σ : St}, One wa w' D σ → IR (· = D) w' v ks := fun {w'} {σ} h => (HV.out.row.below (HEnd.out h)).mono (fun g e => by subst e; exact Nat.le_trans B0.out.size h.ge)
      have HFin := Hd.mk @fin; clear fin
      by_cases hs0 : step = 0
      · subst hs0
        have HT4 := Hd.mk (turn_ok a.data.toList [] a.data.toList [])
        go_wp2_with fail
        refine (H2.out.turn 3 4 0 _ (fit_tS _ _ _ _ _ _ (by simp)) (by rw [HT4.out.1]; rfl) HT4.out.2).mono ?_; rintro e w3 ⟨rfl, h3⟩
        have H3 := Hd.mk h3; clear h3
        go_wp2_with fail
        refine (H3.out.crash v ks _ HV.out.len (fit_tS _ _ _ _ _ _ (by simp)) (HFin.out H3.out) rfl).mono ?_; rintro e w4 ⟨rfl, h4⟩
        have H4 := Hd.mk h4; clear h4
        go_wp2_with fail
        refine (H4.out.start _ (turn_crash _ _ _ _ _)).mono ?_; rintro e w5 ⟨rfl, h5⟩
        have H5 := Hd.mk h5; clear h5
        go_wp2_with fail
        refine (H5.out.read 3 ⟨#[]⟩ 0 rfl rfl).mono ?_; rintro e w6 ⟨rfl, h6⟩
        have H6 := Hd.mk h6; clear h6
        go_wp2
        go_ret
        exact ⟨rfl, HEnd.out H6.out⟩
      · have hz0 : (step == 0) = false := by simp [hs0]
        have hz0' : (step != 0) = true := by simp [hs0]
        clear hs0
        go_wp2_with fail
        refine (H2.out.write 4 0 b 0 _ (fit_tS _ _ _ _ _ _ (by simp)) (by have := HLB.out; simp [tS]; omega) (by decide) (Nat.le_trans HLB.out (by decide)) (by rw [HT3.out.1]; rfl) HT3.out.2).mono ?_; rintro e w3 ⟨rfl, h3⟩
        have H3 := Hd.mk h3; clear h3
        by_cases hs1 : step = 1
        · subst hs1
          by_cases hbe : b.data.toList = []
          · have hbz := empty_size hbe
            subst hbz
            have HT4 := Hd.mk (turn_ok a.data.toList [] a.data.toList [])
            go_wp2_with fail
            refine (H3.out.turn 3 4 0 _ (fit_tS _ _ _ _ _ _ (by simp [pieces_nil])) (by rw [← HT4.out.1]; rfl) HT4.out.2).mono ?_; rintro e w4 ⟨rfl, h4⟩
            have H4 := Hd.mk h4; clear h4
            go_wp2_with fail
            refine (H4.out.crash v ks _ HV.out.len (fit_tS _ _ _ _ _ _ (by simp)) (HFin.out H4.out) rfl).mono ?_; rintro e w5 ⟨rfl, h5⟩
            have H5 := Hd.mk h5; clear h5
            go_wp2_with fail
            refine (H5.out.start _ (turn_crash _ _ _ _ _)).mono ?_; rintro e w6 ⟨rfl, h6⟩
            have H6 := Hd.mk h6; clear h6
            go_wp2_with fail
            refine (H6.out.read 3 ⟨#[]⟩ 0 rfl rfl).mono ?_; rintro e w7 ⟨rfl, h7⟩
            have H7 := Hd.mk h7; clear h7
            go_wp2_with fail
            refine (H7.out.sizeOf 4 0 rfl).mono ?_; rintro e w8 ⟨rfl, rfl⟩
            go_wp2
            go_ret
            exact ⟨rfl, HEnd.out H7.out⟩
          · have hbn : b.toList.isEmpty = false := nonempty_list hbe
            have hbn2 : (!b.toList.isEmpty) = true := by rw [hbn]; rfl
            have HT4 := Hd.mk (turn_no a.data.toList b.data.toList hbe)
            clear hbe
            go_wp2_with fail
            refine (H3.out.turn 3 4 11 _ (fit_tS _ _ _ _ _ _ HQ2.out) (by rw [HT4.out.1]; rfl) HT4.out.2).mono ?_; rintro e w4 ⟨rfl, h4⟩
            have H4 := Hd.mk h4; clear h4
            obtain ⟨c, hc, hcr⟩ := turn_crash2 a.data.toList b.data.toList ks
            have HC := Hd.mk hc
            have HCR := Hd.mk hcr
            clear hc hcr
            go_wp2_with fail
            refine (H4.out.crash v ks _ HV.out.len (fit_tS _ _ _ _ _ _ HQ2.out) (HFin.out H4.out) HCR.out).mono ?_; rintro e w5 ⟨rfl, h5⟩
            have H5 := Hd.mk h5; clear h5
            go_wp2_with fail
            refine (H5.out.start (tS a.data.toList c a.data.toList c [] false) rfl).mono ?_; rintro e w6 ⟨rfl, h6⟩
            have H6 := Hd.mk h6; clear h6
            go_wp2_with fail
            refine (H6.out.read 3 a 0 rfl rfl).mono ?_; rintro e w7 ⟨rfl, h7⟩
            have H7 := Hd.mk h7; clear h7
            have hle : (c.length : Int) ≤ (b.size : Int) := by have := HC.out; rw [size_list] at this; omega
            go_wp2_with fail
            refine (H7.out.sizeOf 4 (c.length : Int) rfl).mono ?_; rintro e w8 ⟨rfl, rfl⟩
            go_wp2
            go_ret
            exact ⟨rfl, HEnd.out H7.out⟩
        · have hz1 : (step == 1) = false := by simp [hs1]
          have hz1' : (step != 1) = true := by simp [hs1]
          clear hs1
          have HT4 := Hd.mk (turn_f2 a.data.toList b.data.toList)
          have HT5 := Hd.mk (turn_ok a.data.toList b.data.toList a.data.toList b.data.toList)
          go_wp2_with fail
          refine (H3.out.flush 4 0 _ (fit_tS _ _ _ _ _ _ HQ2.out) (by rw [HT4.out.1]; rfl) HT4.out.2).mono ?_; rintro e w4 ⟨rfl, h4⟩
          have H4 := Hd.mk h4; clear h4
          go_wp2_with fail
          refine (H4.out.turn 3 4 0 _ (fit_tS _ _ _ _ _ _ (by simp)) (by rw [HT5.out.1]; rfl) HT5.out.2).mono ?_; rintro e w5 ⟨rfl, h5⟩
          have H5 := Hd.mk h5; clear h5
          go_wp2_with fail
          refine (H5.out.crash v ks _ HV.out.len (fit_tS _ _ _ _ _ _ (by simp)) (HFin.out H5.out) rfl).mono ?_; rintro e w6 ⟨rfl, h6⟩
          have H6 := Hd.mk h6; clear h6
          go_wp2_with fail
          refine (H6.out.start _ (turn_crash _ _ _ _ _)).mono ?_; rintro e w7 ⟨rfl, h7⟩
          have H7 := Hd.mk h7; clear h7
          go_wp2_with fail
          refine (H7.out.read 3 b 0 rfl rfl).mono ?_; rintro e w8 ⟨rfl, h8⟩
          have H8 := Hd.mk h8; clear h8
          go_wp2_with fail
          refine (H8.out.sizeOf 4 0 rfl).mono ?_; rintro e w9 ⟨rfl, rfl⟩
          go_wp2
          go_ret
          exact ⟨rfl, HEnd.out H8.out⟩
    · have lb' : (50000 : Int) < (b.size : Int) := by omega
      clear lb
      go_wp2
      go_ret
      exact ⟨rfl, HEnd.out H0.out⟩
  · have la' : (50000 : Int) < (a.size : Int) := by omega
    clear la
    go_wp2
    go_ret
    exact ⟨rfl, HEnd.out H0.out⟩

end Go.Proofs.Ytcleocgaooblfaa.W
